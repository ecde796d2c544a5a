/- The exact laws' own helpers over lists of whole numbers and of hauls: copies, equality, marks. -/
import Derived.Test.YtffkojdmidhchaaQ0
import Derived.Test.YtffkojdmidhchaaP46
import Derived.Test.YtffkojdmidhchaaP48
import Derived.Test.YtffkojdmidhchaaP49
import Derived.Test.YtffkojdmidhchaaP50
import Derived.Test.YtffkojdmidhchaaP51
import Derived.Test.YtffkojdmidhchaaP52
namespace Go.Proofs.Ytffkojdmidhchaa.P
open Go.RowKit Go.Proofs.YtffkojdmidhchaaW.PrintWords Go.Proofs.YtffkojdmidhchaaW.PrintLast Go.Proofs.YtffkojdmidhchaaW.PrintMore
set_option linter.unusedVariables false
set_option linter.unusedSimpArgs false

theorem take_set {α : Type} (xs l : List α) (i : Nat) (h : i < l.length) (hx : xs.length = l.length) (ht : xs.take i = l.take i) : (xs.set i l[i]).take (i + 1) = l.take (i + 1) := by
  rw [List.take_succ_eq_append_getElem (by simpa [hx] using h), List.take_succ_eq_append_getElem h, List.take_set_of_le (Nat.le_refl _), ht]
  simp
theorem toIntS_loop (l : List Int) (hl : l.length ≤ 1048576) (d : Nat) : ∀ (i : Nat) (xs : List Int), l.length - i = d → i ≤ l.length → xs.length = l.length → xs.take i = l.take i → Ev (fun k => laws_toIntS.l0 k l xs i) l := by
  induction d with
  | zero =>
    intro i xs hd hi hx ht
    have : xs = l := by rw [List.take_of_length_le (by omega), List.take_of_length_le (by omega)] at ht; exact ht
    subst this
    exact Ev_end (fun k => by simp only [laws_toIntS.l0]; rw [if_neg (by omega)])
  | succ d ih =>
    intro i xs hd hi hx ht
    have hlt : i < l.length := by omega
    refine Ev_step (ih (i + 1) (xs.set i l[i]) (by omega) (by omega) (by simpa using hx) (take_set xs l i hlt hx ht)) (fun k => ?_)
    simp only [laws_toIntS.l0]
    rw [if_pos (by omega), if_pos (by omega), if_pos (by omega), rd_get hlt, wrap_succ (by omega), Int.toNat_natCast]
theorem toIntS_ev (l : List Int) (hl : l.length ≤ 1048576) : Ev (fun k => laws_toIntS.f k l) l := by
  unfold laws_toIntS.f
  refine Ev_pos (by omega) (Ev_pos (by omega) ?_)
  exact toIntS_loop l hl l.length 0 _ (by omega) (by omega) (by simp) (by simp)
theorem eqIntS_loop (l : List Int) (hl : l.length ≤ 1048576) (d : Nat) : ∀ (i : Nat), l.length - i = d → i ≤ l.length → Ev (fun k => laws_eqIntS.l0 k l l i) true := by
  induction d with
  | zero =>
    intro i hd hi
    exact Ev_end (fun k => by simp only [laws_eqIntS.l0]; rw [if_neg (by omega)])
  | succ d ih =>
    intro i hd hi
    refine Ev_step (ih (i + 1) (by omega) (by omega)) (fun k => ?_)
    simp only [laws_eqIntS.l0]
    rw [if_pos (by omega), if_pos (by omega), if_pos (by omega), wrap_succ (by omega)]
    simp
theorem eqIntS_ev (l : List Int) (hl : l.length ≤ 1048576) : Ev (fun k => laws_eqIntS.f k l l) true := by
  unfold laws_eqIntS.f
  exact Ev_pos rfl (eqIntS_loop l hl l.length 0 (by omega) (by omega))
theorem eqHaulS_loop (l : List S74) (hl : l.length ≤ 1048576) (d : Nat) : ∀ (i : Nat), l.length - i = d → i ≤ l.length → Ev (fun k => laws_eqHaulS.l0 k l l i) true := by
  induction d with
  | zero =>
    intro i hd hi
    exact Ev_end (fun k => by simp only [laws_eqHaulS.l0]; rw [if_neg (by omega)])
  | succ d ih =>
    intro i hd hi
    refine Ev_step (ih (i + 1) (by omega) (by omega)) (fun k => ?_)
    simp only [laws_eqHaulS.l0]
    rw [if_pos (by omega), if_pos (by omega), if_pos (by omega), wrap_succ (by omega)]
    simp [laws_eqHaul.f]
theorem eqHaulS_ev (l : List S74) (hl : l.length ≤ 1048576) : Ev (fun k => laws_eqHaulS.f k l l) true := by
  unfold laws_eqHaulS.f
  exact Ev_pos rfl (eqHaulS_loop l hl l.length 0 (by omega) (by omega))
/-- A mark tells a number that is not negative. -/
theorem markIntS_loop (d : Nat) : ∀ (l : List Int) (i : Nat) (m : Int), l.length - i = d → i ≤ l.length → l.length ≤ 1048576 → 0 ≤ m → m ≤ 4611686018427387904 + i → ∃ l', Ev (fun k => laws_markIntS.l0 k l m i) (m + (l.length - i), l') := by
  induction d with
  | zero =>
    intro l i m hd hi hl h0 h1
    refine ⟨l, Ev_end (fun k => ?_)⟩
    simp only [laws_markIntS.l0]
    rw [if_neg (by omega)]
    congr 2
    omega
  | succ d ih =>
    intro l i m hd hi hl h0 h1
    obtain ⟨l', h⟩ := ih (l.set i m) (i + 1) (m + 1) (by simp; omega) (by simp; omega) (by simpa using hl) (by omega) (by omega)
    refine ⟨l', ?_⟩
    have e : m + 1 + (((l.set i m).length : Int) - ((i + 1 : Nat) : Int)) = m + ((l.length : Int) - i) := by simp; omega
    rw [e] at h
    refine Ev_step h (fun k => ?_)
    simp only [laws_markIntS.l0]
    rw [if_pos (by omega), if_pos (by omega), wrap_succ (by omega), wrap_small (a := m + 1) (by omega) (by omega), Int.toNat_natCast]
theorem markIntS_ev (l : List Int) (hl : l.length ≤ 1048576) : ∃ l', Ev (fun k => laws_markIntS.f k l 1) (1 + (l.length : Int), l') := by
  obtain ⟨l', h⟩ := markIntS_loop l.length l 0 1 (by omega) (by omega) hl (by omega) (by omega)
  refine ⟨l', ?_⟩
  unfold laws_markIntS.f
  simpa using h
/-- Hauls that bear the marks from m on. -/
def markH : Nat → Int → List S74
  | 0, _ => []
  | n + 1, m => ⟨m, m + 1, m + 2⟩ :: markH n (m + 3)
theorem markH_length (n : Nat) (m : Int) : (markH n m).length = n := by
  induction n generalizing m with
  | zero => rfl
  | succ n ih => simp [markH, ih]
theorem set_at {α : Type} (pre : List α) (x y : α) (r : List α) : (pre ++ x :: r).set pre.length y = pre ++ y :: r := by simp
theorem rd74_at (pre : List S74) (x : S74) (r : List S74) : rd_T74 (pre ++ x :: r) (pre.length : Int) = x := by
  rw [rd_T74_get (by simp)]; simp
theorem markHaulS_loop (r : List S74) : ∀ (pre : List S74) (m : Int), pre.length + r.length ≤ 1048576 → 0 ≤ m → m ≤ 4611686018427387904 + 3 * pre.length → Ev (fun k => laws_markHaulS.l0 k (pre ++ r) m pre.length) (m + 3 * r.length, pre ++ markH r.length m) := by
  induction r with
  | nil =>
    intro pre m hl h0 h1
    refine Ev_end (fun k => ?_)
    simp only [laws_markHaulS.l0, List.append_nil]
    rw [if_neg (by omega)]
    simp [markH]
  | cons x r ih =>
    intro pre m hl h0 h1
    simp only [List.length_cons] at hl
    have h := ih (pre ++ [⟨m, m + 1, m + 2⟩]) (m + 3) (by simp; omega) (by omega) (by simp; omega)
    rw [List.append_assoc, List.singleton_append, List.append_assoc, List.singleton_append] at h
    have e : m + 3 + 3 * (r.length : Int) = m + 3 * ((x :: r).length : Int) := by simp; omega
    rw [e, show (⟨m, m + 1, m + 2⟩ :: markH r.length (m + 3)) = markH (x :: r).length m from rfl] at h
    refine Ev_step h (fun k => ?_)
    simp only [laws_markHaulS.l0, Option.bind_some]
    rw [if_pos (by simp; omega), if_pos (by omega), wrap_succ (by omega), wrap_small (a := m + 1) (by omega) (by omega), wrap_small (a := m + 1 + 1) (by omega) (by omega), wrap_small (a := m + 1 + 1 + 1) (by omega) (by omega), Int.toNat_natCast]
    simp only [set_at, rd74_at]
    rw [show m + 1 + 1 = m + 2 by omega, show m + 2 + 1 = m + 3 by omega]
    simp
theorem markHaulS_ev (l : List S74) (hl : l.length ≤ 1048576) : Ev (fun k => laws_markHaulS.f k l 1) (1 + 3 * (l.length : Int), markH l.length 1) := by
  unfold laws_markHaulS.f
  have h := markHaulS_loop l [] 1 (by simpa using hl) (by omega) (by omega)
  simpa using h
theorem heldHaulS_loop (n : Nat) : ∀ (pre : List S74) (m : Int), pre.length + n ≤ 1048576 → 0 ≤ m → m ≤ 4611686018427387904 + 3 * pre.length → Ev (fun k => laws_heldHaulS.l0 k (pre ++ markH n m) m pre.length) (m + 3 * n) := by
  induction n with
  | zero =>
    intro pre m hl h0 h1
    refine Ev_end (fun k => ?_)
    simp only [laws_heldHaulS.l0, markH, List.append_nil]
    rw [if_neg (by omega)]
    simp
  | succ n ih =>
    intro pre m hl h0 h1
    have h := ih (pre ++ [⟨m, m + 1, m + 2⟩]) (m + 3) (by simp; omega) (by omega) (by simp; omega)
    rw [List.append_assoc, List.singleton_append, show m + 3 + 3 * (n : Int) = m + 3 * ((n + 1 : Nat) : Int) by omega] at h
    refine Ev_step h (fun k => ?_)
    simp only [laws_heldHaulS.l0, markH]
    rw [if_pos (by simp)]
    (try rw [if_pos (by omega : (0 : Int) ≤ (pre.length : Int))])
    rw [wrap_succ (by omega), wrap_small (a := m + 1) (by omega) (by omega), wrap_small (a := m + 1 + 1) (by omega) (by omega), wrap_small (a := m + 1 + 1 + 1) (by omega) (by omega)]
    simp only [rd74_at]
    rw [show m + 1 + 1 + 1 = m + 3 by omega, show m + 1 + 1 = m + 2 by omega]
    simp
    intro hh
    omega
theorem heldHaulS_ev (n : Nat) (hl : n ≤ 1048576) : Ev (fun k => laws_heldHaulS.f k (markH n 1) 1) (1 + 3 * (n : Int)) := by
  unfold laws_heldHaulS.f
  have h := heldHaulS_loop n [] 1 (by simpa using hl) (by omega) (by omega)
  simpa using h
end Go.Proofs.Ytffkojdmidhchaa.P
