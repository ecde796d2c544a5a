/- The walk of impl.HaulPlan over stations that are balanced. -/
import Derived.Test.YtffkojdmidhchaaGHaulQ
import Derived.Deep.LoopGhost
namespace Go.Proofs.Ytffkojdmidhchaa.P
open Go.RowKit Go.Proofs.YtffkojdmidhchaaW.PrintWords Go.Proofs.YtffkojdmidhchaaW.PrintLast Go.Proofs.YtffkojdmidhchaaW.PrintMore
set_option linter.unusedVariables false
set_option linter.unusedSimpArgs false
set_option maxHeartbeats 8000000
set_option maxRecDepth 20000
attribute [local go_sem] frozen_alloc' max2_int min2_int max_two min_two max_three min_three max_four min_four

theorem haul_app {w wr w3 : World} {B n : Nat} {o : Obj} {v : Value} {xs : List Value} (hgrow : (wr.alloc o).grownBy w3 v.ownBlock) (hown : wr.ownsRow B 74 3 v n xs) (hB : Below B w wr) (hle : B ≤ w.heap.size) :
    Kept wr w3 (fun k => some k = v.ownBlock) ∧ Below B w w3 := by
  refine ⟨Kept.of_grown hgrow ((Kept.refl wr _).alloc _) (fun k hk => .inl hk.symm), ?_⟩
  exact pw_below_grown (hB.alloc (Nat.le_trans hle hB.size) _) v.ownBlock (by have := hB.size; simp; omega) hgrow (fun k hk => own_base hown k hk)

theorem pilesH_pos (l : List Int) (i : Int) (h : ∀ x ∈ l, -1000 ≤ x ∧ x ≤ 1000) : ∀ p ∈ pilesH l i, 1 ≤ p.2 ∧ p.2 ≤ 1000 := by
  induction l generalizing i with
  | nil => intro p hp; cases hp
  | cons y r ih =>
    intro p hp
    simp only [pilesH] at hp
    have hy := h y (List.mem_cons_self ..)
    split at hp
    · rcases List.mem_cons.1 hp with rfl | hp
      · simp only; omega
      · exact ih _ (fun x hx => h x (List.mem_cons_of_mem _ hx)) p hp
    · exact ih _ (fun x hx => h x (List.mem_cons_of_mem _ hx)) p hp
theorem pilesM_pos (l : List Int) (i : Int) (h : ∀ x ∈ l, -1000 ≤ x ∧ x ≤ 1000) : ∀ p ∈ pilesM l i, 1 ≤ p.2 ∧ p.2 ≤ 1000 := by
  induction l generalizing i with
  | nil => intro p hp; cases hp
  | cons y r ih =>
    intro p hp
    simp only [pilesM] at hp
    have hy := h y (List.mem_cons_self ..)
    split at hp
    · rcases List.mem_cons.1 hp with rfl | hp
      · simp only; omega
      · exact ih _ (fun x hx => h x (List.mem_cons_of_mem _ hx)) p hp
    · exact ih _ (fun x hx => h x (List.mem_cons_of_mem _ hx)) p hp

def HPost (w : World) (F : List S74) (e : Ending) (w' : World) : Prop :=
  ∃ v0, e = .returned (.tuple #[v0, .bool true]) ∧ w'.ownsRow w.heap.size 74 3 v0 F.length (hcells F) ∧ Below w.heap.size w w'

theorem HaulPlan_yes (A0 : Option Addr) (c0 : Nat) (l : List Int) (w : World) (hr : Kd.C (Kd.int .i64) w A0 l.length l) (hc : l.length ≤ c0) (hb : hbal l)
    (HB : Calls Try.prog 118 #[.slice A0 l.length c0] w fun e w' => e = .returned (.bool true) ∧ Below w.heap.size w w') :
    Calls Try.prog 47 #[.slice A0 l.length c0] w (HPost w (haul (pilesH l 0) (pilesM l 0))) := by
  have hu182 := Try.underlying182
  have hu141 := Try.underlying141
  have hu180 := Try.underlying180
  have hu74 := Try.underlying74
  obtain ⟨i0, hi0, hz0, hz1, hz2⟩ := info_parts info74
  obtain ⟨hb1, hb2, hb3, hb4⟩ := hb
  have H0 := Aside0.mk HB; clear HB
  go_enter Try.func47, Try.ntmps47
  go_wp2_with (first
    | (go_at_call 118; refine H0.out.mono ?_; rintro e w1 ⟨rfl, hw1⟩)
    | (go_at_call 119; (with_reducible refine (piles_any A0 c0 l _ ?hr hc hb2 hb3).mono ?_); (case hr => exact Kd.C_below (Kd.C_below hr hw1) (below_alloc (Below.refl _ _) _)); rintro e w2 ⟨g1, g2, rfl, htq, hw2⟩))
  have HTQ := Aside0.mk htq
  have HW2 := Aside0.mk hw2
  clear htq hw2
  go_loopg [4] ((pilesH l 0).length + (pilesM l 0).length) (fun kq v wr => ∃ h m, h.length + m.length = kq ∧ HRel w (haul (pilesH l 0) (pilesM l 0)) v wr g1 g2 h m)
  case atStart =>
    have hle := hw1.size
    have hsz := HW2.out.size
    have k1 := pilesH_len l 0
    have k2 := pilesM_len l 0
    refine ⟨pilesH l 0, pilesM l 0, rfl, [], rfl, pilesH_pos l 0 hb3, pilesM_pos l 0 hb3, TwoC.lower HTQ.out.served (by simp; omega), ?_, by simp; omega, ?_⟩
    · have h0 := World.ownsRow_lit (base := w.heap.size) (e := 74) (size := 3) w1 #[] 0 hle (by simp [maxLen]) rfl
      exact own_keep (own_keep h0 (Kept.of_below HW2.out (fun _ => False)) (fun _ _ h => h)) (Kept.refl _ (fun _ => False)) (fun _ _ h => h)
    · exact below_then (hw1.alloc hle _) (by simp; omega) HW2.out
  case round =>
    obtain ⟨hs, ms, hkq, out, hF, hph, hpm, htc, hown, hlen, hB⟩ := hrel
    subst hkq
    obtain ⟨A1, c1, A2, c2, q1, q2, hg12, hsep⟩ := htc
    have B1 := Aside0.mk q1.1
    have B2 := Aside0.mk q2.1
    cases hs with
    | nil =>
      rw [haul_nil1, List.append_nil] at hF
      have HF := Aside0.mk hF
      have HO := Aside0.mk hown
      clear q1 q2 hF hph hpm hsep hown
      go_wp2_with (go_at_call 120; (with_reducible refine (empty_yes g1 _ _ _ B1.out).mono ?_); rintro e w3 ⟨rfl, rfl⟩)
      go_ret2
      exact ⟨_, rfl, by rw [← HF.out]; exact HO.out, hB⟩
    | cons p hs =>
      cases ms with
      | nil =>
        rw [haul_nil2, List.append_nil] at hF
        have HF := Aside0.mk hF
        have HO := Aside0.mk hown
        clear q1 q2 hF hph hpm hsep hown
        go_wp2_with (first
          | (go_at_call 120; (with_reducible refine (empty_no g1 _ _ _ _ B1.out (by simp)).mono ?_); rintro e w3 ⟨rfl, rfl⟩)
          | (go_at_call 120; (with_reducible refine (empty_yes g2 _ _ _ B2.out).mono ?_); rintro e w3 ⟨rfl, rfl⟩))
        go_ret2
        exact ⟨_, rfl, by rw [← HF.out]; exact HO.out, hB⟩
      | cons q ms =>
        obtain ⟨s1, x⟩ := p
        obtain ⟨s2, y⟩ := q
        obtain ⟨a1, o1, rfl⟩ := q1.addr
        obtain ⟨a2, o2, rfl⟩ := q2.addr
        have hne := hsep a1 o1 a2 o2 (by simp) (by simp) rfl rfl
        have hne' := Ne.symm hne
        obtain ⟨ca0, ca1, fa, hba, hla, cur1, ha1⟩ := q1.cells
        obtain ⟨cb0, cb1, fb, hbb, hlb, cur2, ha2⟩ := q2.cells
        have hx := hph _ (List.mem_cons_self ..)
        have hy := hpm _ (List.mem_cons_self ..)
        have hva := own_ne_blk hown ha1 (by decide)
        have hvb := own_ne_blk hown ha2 (by decide)
        have hvg1 := own_ne_blk hown q1.1 (by decide)
        have hvg2 := own_ne_blk hown q2.1 (by decide)
        simp only at hx hy
        rcases Int.lt_trichotomy x y with hxy | hxy | hxy
        · have hd : ((y - x) == 0) = false := beq_eq_false_iff_ne.2 (by omega)
          have Q1 := Aside0.mk q1
          have Q2 := Aside0.mk q2
          have HF := Aside0.mk hF
          have HPH := Aside0.mk hph
          have HPM := Aside0.mk hpm
          have HO := Aside0.mk hown
          clear q1 q2 hF hph hpm hsep ha1 ha2 hown
          go_wp2_with (first
            | (go_at_call 120; (with_reducible refine (empty_no g1 _ _ _ _ B1.out (by simp)).mono ?_); rintro e w3 ⟨rfl, rfl⟩)
            | (go_at_call 120; (with_reducible refine (empty_no g2 _ _ _ _ B2.out (by simp)).mono ?_); rintro e w3 ⟨rfl, rfl⟩)
            | (go_at_call 121; (with_reducible refine (front_any g1 a1 o1 _ _ _ B1.out (by simp)).mono ?_); rintro e w3 ⟨rfl, rfl⟩)
            | (go_at_call 121; (with_reducible refine (front_any g2 a2 o2 _ _ _ B2.out (by simp)).mono ?_); rintro e w3 ⟨rfl, rfl⟩))
          go_quiet (fail)
          go_wp2
          go_region_law ((refine step_append_lies _ (by rfl) _ _ _ (by rfl) w.heap.size 74 i0 _ 3 24 Try.underlying63 hi0 hz0 hz1 hz2 rfl (by omega) _ out.length (hcells out) (by rfl) (by exact HO.out.alloc _) ⟨wr.heap.size, 0, none⟩ 1 1 [.int .i64 s1, .int .i64 s2, .int .i64 x] (by rfl) (by rfl) (World.news_of_block (cs := #[.int .i64 s1, .int .i64 s2, .int .i64 x]) (t := 74) (fr := (0, 0)) (by exact heap_alloc_new wr (.cells #[.int .i64 s1, .int .i64 s2, .int .i64 x] 74))) (by simp [Value.oneCell']) (by omega) (by simp only [maxLen]; omega) (by omega) (by have := hB.size; simp; omega) (wr.heap.size + 1) (by simp) ?_; intro gg cap w3 hown1 hgrow hat hlt1; obtain ⟨hK3, hB3⟩ := haul_app (wr := wr) (o := .cells #[.int .i64 s1, .int .i64 s2, .int .i64 x] 74) ⟨hgrow.os, hgrow.tape, hgrow.output, hgrow.size, hgrow.block⟩ HO.out hB (Nat.le_refl _)))
          all_goals
            have q1' := Q1.out.kept hK3 (fun e => hvg1 e.symm) (fun a o _ e hk => by injection e with e; injection e with e; subst e; exact hva hk.symm)
            have q2' := Q2.out.kept hK3 (fun e => hvg2 e.symm) (fun a o _ e hk => by injection e with e; injection e with e; subst e; exact hvb hk.symm)
            obtain ⟨ca0', ca1', fa', _, _, cur1', ha1'⟩ := q1'.cells
            obtain ⟨cb0', cb1', fb', _, _, cur2', ha2'⟩ := q2'.cells
            have P1 := Aside0.mk q1'.1
            have P2 := Aside0.mk q2'.1
            have n11 := blk_ne P1.out ha1' (by decide)
            have n12 := blk_ne P1.out ha2' (by decide)
            have n21 := blk_ne P2.out ha1' (by decide)
            have n22 := blk_ne P2.out ha2' (by decide)
            have l1 := q1'.2.2.1
            have l2 := q2'.2.2.1
            have R := Aside0.mk (Rnd.mk (n := x) q1' q2' hown1 n12 n21 hne hg12 hB3 HF.out HPH.out HPM.out hlen)
            clear q1' q2' hown1 hK3 hgrow hat ca0 ca1 cb0 cb1 fa fb ha1' ha2'
            go_wp2_with (go_at_call 122; (with_reducible refine (drop_any g1 a1 o1 _ c1 _ ?hq (by simp) l1).mono ?_); (case hq => exact blk_far (blk_far P1.out n11 _) n12 _); rintro e w4 ⟨rfl, rfl⟩)
            go_roundg (hs.length + (ms.length + 1))
            case measure => simp only [List.length_cons]; omega
            case rel => exact ⟨hs, (s2, y - x) :: ms, by simp <;> omega, R.out.less hxy rfl⟩
        · obtain rfl := hxy
          have Q1 := Aside0.mk q1
          have Q2 := Aside0.mk q2
          have HF := Aside0.mk hF
          have HPH := Aside0.mk hph
          have HPM := Aside0.mk hpm
          have HO := Aside0.mk hown
          clear q1 q2 hF hph hpm hsep ha1 ha2 hown
          go_wp2_with (first
            | (go_at_call 120; (with_reducible refine (empty_no g1 _ _ _ _ B1.out (by simp)).mono ?_); rintro e w3 ⟨rfl, rfl⟩)
            | (go_at_call 120; (with_reducible refine (empty_no g2 _ _ _ _ B2.out (by simp)).mono ?_); rintro e w3 ⟨rfl, rfl⟩)
            | (go_at_call 121; (with_reducible refine (front_any g1 a1 o1 _ _ _ B1.out (by simp)).mono ?_); rintro e w3 ⟨rfl, rfl⟩)
            | (go_at_call 121; (with_reducible refine (front_any g2 a2 o2 _ _ _ B2.out (by simp)).mono ?_); rintro e w3 ⟨rfl, rfl⟩))
          go_quiet (fail)
          go_wp2
          go_region_law ((refine step_append_lies _ (by rfl) _ _ _ (by rfl) w.heap.size 74 i0 _ 3 24 Try.underlying63 hi0 hz0 hz1 hz2 rfl (by omega) _ out.length (hcells out) (by rfl) (by exact HO.out.alloc _) ⟨wr.heap.size, 0, none⟩ 1 1 [.int .i64 s1, .int .i64 s2, .int .i64 x] (by rfl) (by rfl) (World.news_of_block (cs := #[.int .i64 s1, .int .i64 s2, .int .i64 x]) (t := 74) (fr := (0, 0)) (by exact heap_alloc_new wr (.cells #[.int .i64 s1, .int .i64 s2, .int .i64 x] 74))) (by simp [Value.oneCell']) (by omega) (by simp only [maxLen]; omega) (by omega) (by have := hB.size; simp; omega) (wr.heap.size + 1) (by simp) ?_; intro gg cap w3 hown1 hgrow hat hlt1; obtain ⟨hK3, hB3⟩ := haul_app (wr := wr) (o := .cells #[.int .i64 s1, .int .i64 s2, .int .i64 x] 74) ⟨hgrow.os, hgrow.tape, hgrow.output, hgrow.size, hgrow.block⟩ HO.out hB (Nat.le_refl _)))
          all_goals
            have q1' := Q1.out.kept hK3 (fun e => hvg1 e.symm) (fun a o _ e hk => by injection e with e; injection e with e; subst e; exact hva hk.symm)
            have q2' := Q2.out.kept hK3 (fun e => hvg2 e.symm) (fun a o _ e hk => by injection e with e; injection e with e; subst e; exact hvb hk.symm)
            obtain ⟨ca0', ca1', fa', _, _, cur1', ha1'⟩ := q1'.cells
            obtain ⟨cb0', cb1', fb', _, _, cur2', ha2'⟩ := q2'.cells
            have P1 := Aside0.mk q1'.1
            have P2 := Aside0.mk q2'.1
            have n11 := blk_ne P1.out ha1' (by decide)
            have n12 := blk_ne P1.out ha2' (by decide)
            have n21 := blk_ne P2.out ha1' (by decide)
            have n22 := blk_ne P2.out ha2' (by decide)
            have l1 := q1'.2.2.1
            have l2 := q2'.2.2.1
            have R := Aside0.mk (Rnd.mk (n := x) q1' q2' hown1 n12 n21 hne hg12 hB3 HF.out HPH.out HPM.out hlen)
            clear q1' q2' hown1 hK3 hgrow hat ca0 ca1 cb0 cb1 fa fb ha1' ha2'
            go_wp2_with (first | (go_at_call 122; (with_reducible refine (drop_any g1 a1 o1 _ c1 _ ?hq (by simp) l1).mono ?_); (case hq => exact blk_far (blk_far P1.out n11 _) n12 _); rintro e w4 ⟨rfl, rfl⟩) | (go_at_call 122; (with_reducible refine (drop_any g2 a2 o2 _ c2 _ ?hq (by simp) l2).mono ?_); (case hq => exact blk_far (blk_far (blk_far P2.out n21 _) n22 _) hg12.symm _); rintro e w5 ⟨rfl, rfl⟩))
            go_roundg (hs.length + ms.length)
            case measure => simp only [List.length_cons]; omega
            case rel => exact ⟨hs, ms, by simp <;> omega, R.out.same rfl rfl⟩
        · have hd : ((x - y) == 0) = false := beq_eq_false_iff_ne.2 (by omega)
          have Q1 := Aside0.mk q1
          have Q2 := Aside0.mk q2
          have HF := Aside0.mk hF
          have HPH := Aside0.mk hph
          have HPM := Aside0.mk hpm
          have HO := Aside0.mk hown
          clear q1 q2 hF hph hpm hsep ha1 ha2 hown
          go_wp2_with (first
            | (go_at_call 120; (with_reducible refine (empty_no g1 _ _ _ _ B1.out (by simp)).mono ?_); rintro e w3 ⟨rfl, rfl⟩)
            | (go_at_call 120; (with_reducible refine (empty_no g2 _ _ _ _ B2.out (by simp)).mono ?_); rintro e w3 ⟨rfl, rfl⟩)
            | (go_at_call 121; (with_reducible refine (front_any g1 a1 o1 _ _ _ B1.out (by simp)).mono ?_); rintro e w3 ⟨rfl, rfl⟩)
            | (go_at_call 121; (with_reducible refine (front_any g2 a2 o2 _ _ _ B2.out (by simp)).mono ?_); rintro e w3 ⟨rfl, rfl⟩))
          go_quiet (fail)
          go_wp2
          go_region_law ((refine step_append_lies _ (by rfl) _ _ _ (by rfl) w.heap.size 74 i0 _ 3 24 Try.underlying63 hi0 hz0 hz1 hz2 rfl (by omega) _ out.length (hcells out) (by rfl) (by exact HO.out.alloc _) ⟨wr.heap.size, 0, none⟩ 1 1 [.int .i64 s1, .int .i64 s2, .int .i64 y] (by rfl) (by rfl) (World.news_of_block (cs := #[.int .i64 s1, .int .i64 s2, .int .i64 y]) (t := 74) (fr := (0, 0)) (by exact heap_alloc_new wr (.cells #[.int .i64 s1, .int .i64 s2, .int .i64 y] 74))) (by simp [Value.oneCell']) (by omega) (by simp only [maxLen]; omega) (by omega) (by have := hB.size; simp; omega) (wr.heap.size + 1) (by simp) ?_; intro gg cap w3 hown1 hgrow hat hlt1; obtain ⟨hK3, hB3⟩ := haul_app (wr := wr) (o := .cells #[.int .i64 s1, .int .i64 s2, .int .i64 y] 74) ⟨hgrow.os, hgrow.tape, hgrow.output, hgrow.size, hgrow.block⟩ HO.out hB (Nat.le_refl _)))
          all_goals
            have q1' := Q1.out.kept hK3 (fun e => hvg1 e.symm) (fun a o _ e hk => by injection e with e; injection e with e; subst e; exact hva hk.symm)
            have q2' := Q2.out.kept hK3 (fun e => hvg2 e.symm) (fun a o _ e hk => by injection e with e; injection e with e; subst e; exact hvb hk.symm)
            obtain ⟨ca0', ca1', fa', _, _, cur1', ha1'⟩ := q1'.cells
            obtain ⟨cb0', cb1', fb', _, _, cur2', ha2'⟩ := q2'.cells
            have P1 := Aside0.mk q1'.1
            have P2 := Aside0.mk q2'.1
            have n11 := blk_ne P1.out ha1' (by decide)
            have n12 := blk_ne P1.out ha2' (by decide)
            have n21 := blk_ne P2.out ha1' (by decide)
            have n22 := blk_ne P2.out ha2' (by decide)
            have l1 := q1'.2.2.1
            have l2 := q2'.2.2.1
            have R := Aside0.mk (Rnd.mk (n := y) q1' q2' hown1 n12 n21 hne hg12 hB3 HF.out HPH.out HPM.out hlen)
            clear q1' q2' hown1 hK3 hgrow hat ca0 ca1 cb0 cb1 fa fb ha1' ha2'
            go_wp2_with (go_at_call 122; (with_reducible refine (drop_any g2 a2 o2 _ c2 _ ?hq (by simp) l2).mono ?_); (case hq => exact blk_far (blk_far P2.out n21 _) n22 _); rintro e w4 ⟨rfl, rfl⟩)
            go_roundg (hs.length + 1 + ms.length)
            case measure => simp only [List.length_cons]; omega
            case rel => exact ⟨(s1, x - y) :: hs, ms, by simp <;> omega, R.out.more hxy rfl⟩
end Go.Proofs.Ytffkojdmidhchaa.P
