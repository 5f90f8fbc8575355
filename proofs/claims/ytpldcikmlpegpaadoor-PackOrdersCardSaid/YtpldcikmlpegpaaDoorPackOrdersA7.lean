/-
A part of the proof of this: The tied card of the law PackOrders of snowlinelaw02 holds: it answers true for all two packs and all two numbers, and changes nothing.
-/
import Derived.Test.YtpldcikmlpegpaaDoorPackOrdersA1
import Derived.Test.YtpldcikmlpegpaaDoorPackOrdersA2
import Derived.Test.YtpldcikmlpegpaaDoorPackOrdersA3
import Derived.Test.YtpldcikmlpegpaaDoorPackOrdersA4
import Derived.Test.YtpldcikmlpegpaaDoorPackOrdersA5
import Derived.Test.YtpldcikmlpegpaaDoorPackOrdersA6
section
namespace Go.Proofs.YtpldcikmlpegpaaDoor.PB
open Go.RowKit Go.Proofs.YtpldcikmlpegpaaDoorW.PrintWords Go.Proofs.YtpldcikmlpegpaaDoorW.PrintLast Go.Proofs.YtpldcikmlpegpaaDoorW.PrintMore
attribute [local go_sem] max2_int min2_int max_two min_two max_three min_three max_four min_four   -- for this text's walks alone
set_option linter.unusedVariables false
set_option linter.unusedSimpArgs false
mutual
def snowlineref02_Do.j0 : Nat → List (S48) → Int → Int → Bool → Int → Int → Int → Option ((List (S48)) × Int × Int)
  | 0, _, _, _, _, _, _, _ => none
  | k + 1, x0, x7, x8, x24, x279000, x279001, x279002 => if x24 = true then ((some (([(⟨x279001, 0, x279002⟩ : S48)] : List (S48)) : List (S48))).bind fun y279 => (if y279.length + x0.length < 5864062014805 then (some ((y279 ++ x0), 0, 0)) else (none))) else (if x279000 = 2 then ((snowlineref02_flow.f k x0 x279001).bind fun bt285 => (some (bt285.1, bt285.2, 0))) else ((some (([] : List (S48)) : List (S48))).bind fun y289 => (if y289.length + x0.length < 5864062014805 then ((some (y289 ++ x0 : List (S48))).bind fun y292 => (if x279000 = 4 then (snowlineref02_Do.l0 k y292 x279001 0) else (snowlineref02_Do.l1 k x7 x8 y292 0 x279000 x279001 x279002))) else (none))))
def snowlineref02_Do.l0 : Nat → List (S48) → Int → Int → Option ((List (S48)) × Int × Int)
  | 0, _, _, _ => none
  | k + 1, x11, x12, x13 => if x13 < (x11.length : Int) then (if 0 ≤ x13 then ((some (x11.set (x13 : Int).toNat (⟨(rd_T48 x11 x13).f0, wrap64 (((rd_T48 x11 x13).f1) - (mn x12 ((rd_T48 x11 x13).f1))), (rd_T48 x11 x13).f2⟩ : S48) : List (S48))).bind fun y297 => (snowlineref02_Do.l0 k (y297.set (x13 : Int).toNat (⟨wrap64 (((rd_T48 y297 x13).f0) + (mn x12 ((rd_T48 x11 x13).f1))), (rd_T48 y297 x13).f1, (rd_T48 y297 x13).f2⟩ : S48)) (wrap64 (x12 - (mn x12 ((rd_T48 x11 x13).f1)))) (wrap64 (x13 + 1)))) else (none)) else (if (x11.length : Int) > 0 then (if 0 < (x11.length : Int) then (some ((x11.set (0 : Int).toNat (⟨(rd_T48 x11 0).f0, (rd_T48 x11 0).f1, wrap64 (((rd_T48 x11 0).f2) + x12)⟩ : S48)), 0, 0)) else (none)) else (some (x11, 0, 0)))
def snowlineref02_Do.l1 : Nat → Int → Int → List (S48) → Int → Int → Int → Int → Option ((List (S48)) × Int × Int)
  | 0, _, _, _, _, _, _, _ => none
  | k + 1, x7, x8, x11, x15, x279000, x279001, x279002 => if x15 < x279001 then (if (x11.length : Int) > 0 then (snowlineref02_Do.j3 k x7 x8 x11 x15 (x279000 != 1) x279000 x279001 x279002) else (snowlineref02_Do.j3 k x7 x8 x11 x15 false x279000 x279001 x279002)) else (snowlineref02_Do.j3 k x7 x8 x11 x15 false x279000 x279001 x279002)
def snowlineref02_Do.j3 : Nat → Int → Int → List (S48) → Int → Bool → Int → Int → Int → Option ((List (S48)) × Int × Int)
  | 0, _, _, _, _, _, _, _, _ => none
  | k + 1, x7, x8, x11, x15, x117, x279000, x279001, x279002 => if x117 = true then (if x279000 = 3 then (if 0 < (x11.length : Int) then (if ((rd_T48 x11 0).f2) > 0 then (snowlineref02_Do.l1 k (wrap64 (x7 + 0)) x8 (x11.set (0 : Int).toNat (⟨(rd_T48 x11 0).f0, (rd_T48 x11 0).f1, wrap64 (((rd_T48 x11 0).f2) - 1)⟩ : S48)) (wrap64 (x15 + 1)) x279000 x279001 x279002) else ((snowlineref02_lose.f k x11 1).bind fun bt305 => (snowlineref02_Do.l1 k (wrap64 (x7 + bt305.2)) x8 bt305.1 (wrap64 (x15 + 1)) x279000 x279001 x279002))) else (none)) else ((snowlineref02_lose.f k x11 0).bind fun bt309 => (snowlineref02_Do.l1 k (wrap64 (x7 + bt309.2)) (wrap64 (x8 + 1)) bt309.1 (wrap64 (x15 + 1)) x279000 x279001 x279002))) else (some (x11, x7, x8))
end
def snowlineref02_Do.f (k : Nat) (l0 : List (S48)) (a1_0 : Int) (a1_1 : Int) (a1_2 : Int) : Option ((List (S48)) × Int × Int) := if a1_0 = 1 then (snowlineref02_Do.j0 k l0 0 0 (decide (a1_1 > 0)) a1_0 a1_1 a1_2) else (snowlineref02_Do.j0 k l0 0 0 false a1_0 a1_1 a1_2)
set_option maxHeartbeats 8000000 in
set_option maxRecDepth 100000 in
theorem snowlineref02_Do.calls (k : Nat) (A0 : Option Addr) (c0 : Nat) (l0 : List (S48)) (a1_0 : Int) (a1_1 : Int) (a1_2 : Int) (r1 : List (S48)) (r2 : Int) (r3 : Int) (w : World) (hr0 : Kd.C k48 w A0 l0.length l0) (hc0 : l0.length ≤ c0) (h : snowlineref02_Do.f k l0 a1_0 a1_1 a1_2 = some (r1, r2, r3)) :
    Calls Tryd.prog 62 #[.slice A0 l0.length c0, .agg #[.int .i64 a1_0, .int .i64 a1_1, .int .i64 a1_2]] w fun e w' => ∃ v0_ : Value, e = .returned (.tuple #[v0_, .int .i64 r2, .int .i64 r3]) ∧ Kd.R k48 48 w' w.heap.size (fun _ => True) v0_ r1 ∧ Below w.heap.size w w' := by
  have hu26 := Tryd.underlying26
  have hu48 := Tryd.underlying48
  have HR0 := Aside0.mk hr0
  have HC0 := Aside0.mk hc0
  clear hr0 hc0
  have HB := Aside0.mk (Below.refl w.heap.size w)
  have H : (if a1_0 = 1 then (snowlineref02_Do.j0 k l0 0 0 (decide (a1_1 > 0)) a1_0 a1_1 a1_2) else (snowlineref02_Do.j0 k l0 0 0 false a1_0 a1_1 a1_2)) = some (r1, r2, r3) := h
  clear h
  have HC3 := Aside0.mk H
  clear H
  go_enter Tryd.func62, Tryd.ntmps62
  go_upto_region 3 with (first | ((with_reducible refine gate_dst (N := 3) rfl ?_); (try (refine gate_guard (by rfl) ?_; dsimp only)); refine box_event ?hg (N := 3) ?hd (cs := #[.int .i64 a1_0, .int .i64 a1_1, .int .i64 a1_2]) (t := 26) ?hr ?_; (case hd => rfl); (case hg => rfl); (case hr => first | (go_simp; done) | (go_simp; rfl)); intro gb278 hg w4 hbox hb; have n0_ := Aside0.mk (below_step (by repeat (first | (with_reducible first | exact HB.out | apply below_alloc | apply pw_below_drewN | apply below_drew1) | exact HB.out)) hb); have n1_ := Aside0.mk (hbox); have n2_ := Aside0.mk ((by rw [hg]; exact (below_size (by repeat (first | (with_reducible first | exact HB.out | apply below_alloc | apply pw_below_drewN | apply below_drew1) | exact HB.out))) : w.heap.size ≤ gb278)); have n3_ := Aside0.mk ((by rw [hg]; exact (below_size (by repeat (first | (with_reducible first | exact HB.out | apply below_alloc | apply pw_below_drewN | apply below_drew1) | exact HB.out))) : w.heap.size ≤ gb278)); clear HB; have HB := n0_; have BK278 := n1_; have GW278 := n2_; have GE278 := n3_; clear n0_ n1_ n2_ n3_; clear hb hbox hg))
  (try simp only [Act.put, List.setIfInBounds_toArray, List.set_cons_zero, List.set_cons_succ])
  go_cut [24] (fun v24 wc => ∃ (kq : Nat) (x24_2 : Bool), v24 = .bool x24_2 ∧ Aside0 (snowlineref02_Do.j0 kq l0 0 0 x24_2 a1_0 a1_1 a1_2 = some (r1, r2, r3)) ∧ Aside0 (kq ≤ k) ∧ Aside0 (wc.heap[gb278]? = some (.cells #[.int .i64 a1_0, .int .i64 a1_1, .int .i64 a1_2] 26 (0, 0))) ∧ Aside0 (Below w.heap.size w wc))
  case first =>
    have H := HC3.out
    clear HC3
    by_cases c5 : a1_0 = 1
    · rw [if_pos c5] at H
      have c5b0 : (a1_0 == 1) = true := beq_iff_eq.mpr c5
      have c5b1 : (a1_0 != 1) = false := bne_eq_false_iff_eq.mpr c5
      clear c5
      (first | rw [c5b0] | (simp only [i64_w, i32_w]; rw [c5b0]) | skip)
      have H' := Aside0.mk H
      clear H
      have hcz6_0 : w4.cell? ⟨gb278, 0, none⟩ = some (.int .i64 a1_0) := (blk_cell BK278.out 0).trans rfl
      have hcz6_1 : w4.cell? ⟨gb278, 1, none⟩ = some (.int .i64 a1_1) := (blk_cell BK278.out 1).trans rfl
      have hcz6_2 : w4.cell? ⟨gb278, 2, none⟩ = some (.int .i64 a1_2) := (blk_cell BK278.out 2).trans rfl
      have hfz6_0 := blk_frozen BK278.out 0
      have hfz6_1 := blk_frozen BK278.out 1
      have hfz6_2 := blk_frozen BK278.out 2
      go_wp2
      go_meet
      case rel => exact ⟨_, (decide (a1_1 > 0)), (by first | rfl | (simp; done) | (simp [*]; done)), H', ⟨by first | omega | exact Nat.le_refl _⟩, ⟨by (with_reducible repeat (first | refine blk_drewN ?_ _ | refine blk_drew ?_ | refine blk_alloc ?_ _)); exact BK278.out⟩, ⟨by repeat (first | (with_reducible first | exact HB.out | apply below_alloc | apply pw_below_drewN | apply below_drew1 | refine below_set ?_ GE278.out) | exact HB.out)⟩⟩
    · rw [if_neg c5] at H
      have c5b0 : (a1_0 == 1) = false := beq_eq_false_iff_ne.mpr c5
      have c5b1 : (a1_0 != 1) = true := bne_iff_ne.mpr c5
      (first | rw [c5b0] | (simp only [i64_w, i32_w]; rw [c5b0]) | skip)
      have H' := Aside0.mk H
      clear H
      have hcz7_0 : w4.cell? ⟨gb278, 0, none⟩ = some (.int .i64 a1_0) := (blk_cell BK278.out 0).trans rfl
      have hcz7_1 : w4.cell? ⟨gb278, 1, none⟩ = some (.int .i64 a1_1) := (blk_cell BK278.out 1).trans rfl
      have hcz7_2 : w4.cell? ⟨gb278, 2, none⟩ = some (.int .i64 a1_2) := (blk_cell BK278.out 2).trans rfl
      have hfz7_0 := blk_frozen BK278.out 0
      have hfz7_1 := blk_frozen BK278.out 1
      have hfz7_2 := blk_frozen BK278.out 2
      go_wp2
      go_meet
      case rel => exact ⟨_, (false), (by first | rfl | (simp; done) | (simp [*]; done)), H', ⟨by first | omega | exact Nat.le_refl _⟩, ⟨by (with_reducible repeat (first | refine blk_drewN ?_ _ | refine blk_drew ?_ | refine blk_alloc ?_ _)); exact BK278.out⟩, ⟨by repeat (first | (with_reducible first | exact HB.out | apply below_alloc | apply pw_below_drewN | apply below_drew1 | refine below_set ?_ GE278.out) | exact HB.out)⟩⟩
  case rest =>
    clear HC3
    try clear p2
    try clear c5
    try clear c5b0
    try clear c5b1
    try clear c6
    try clear hcz6_0
    try clear hcz6_1
    try clear hcz6_2
    try clear hcz7_0
    try clear hcz7_1
    try clear hcz7_2
    try clear hfz6_0
    try clear hfz6_1
    try clear hfz6_2
    try clear hfz7_0
    try clear hfz7_1
    try clear hfz7_2
    obtain ⟨kq, x24_2, rfl, HA, HJ2, BK278, HB⟩ := hcut
    cases kq with
    | zero => exact absurd HA.out (by simp [snowlineref02_Do.j0])
    | succ kj2 =>
      have H := HA.out
      clear HA
      simp only [snowlineref02_Do.j0] at H
      by_cases c8 : x24_2 = true
      · subst c8
        have H1 : ((some (([(⟨a1_1, 0, a1_2⟩ : S48)] : List (S48)) : List (S48))).bind fun y279 => (if y279.length + l0.length < 5864062014805 then (some ((y279 ++ l0), 0, 0)) else (none))) = some (r1, r2, r3) := by rw [if_pos rfl] at H; exact H
        clear H
        have H := H1
        clear H1
        obtain ⟨y279, hy279⟩ : ∃ y_ : List (S48), y_ = (([(⟨a1_1, 0, a1_2⟩ : S48)] : List (S48))) := ⟨_, rfl⟩
        replace H : (if y279.length + l0.length < 5864062014805 then (some ((y279 ++ l0), 0, 0)) else (none)) = some (r1, r2, r3) := by first | (rw [hy279]; with_reducible exact H) | (have H2_ := (Option.bind_some _ _).symm.trans H; rw [hy279]; with_reducible exact H2_) | (have H2_ := (Option.bind_some _ _).symm.trans H; with_reducible exact H2_) | with_reducible exact H | (rw [hy279]; exact H) | exact H
        have Ny279 := Aside0.mk hy279
        clear hy279
        by_cases c9 : y279.length + l0.length < 5864062014805
        · rw [if_pos c9] at H
          have LMc9 := Aside0.mk c9
          clear c9
          obtain ⟨y282, hy282⟩ : ∃ y_ : List (S48), y_ = (y279 ++ l0) := ⟨_, rfl⟩
          replace H : (some (y282, 0, 0)) = some (r1, r2, r3) := by first | (rw [hy282]; with_reducible exact H) | (have H2_ := (Option.bind_some _ _).symm.trans H; rw [hy282]; with_reducible exact H2_) | (have H2_ := (Option.bind_some _ _).symm.trans H; with_reducible exact H2_) | with_reducible exact H | (rw [hy282]; exact H) | exact H
          have Ny282 := Aside0.mk hy282
          clear hy282
          simp only [Option.some.injEq, Prod.mk.injEq] at H
          obtain ⟨rfl, rfl, rfl⟩ := H
          have hcz10_0 : wc.cell? ⟨gb278, 0, none⟩ = some (.int .i64 a1_0) := (blk_cell BK278.out 0).trans rfl
          have hcz10_1 : wc.cell? ⟨gb278, 1, none⟩ = some (.int .i64 a1_1) := (blk_cell BK278.out 1).trans rfl
          have hcz10_2 : wc.cell? ⟨gb278, 2, none⟩ = some (.int .i64 a1_2) := (blk_cell BK278.out 2).trans rfl
          have hfz10_0 := blk_frozen BK278.out 0
          have hfz10_1 := blk_frozen BK278.out 1
          have hfz10_2 := blk_frozen BK278.out 2
          go_wp2_with (first | ((with_reducible refine gate_dst (N := 30) rfl ?_); (try (refine gate_guard (by rfl) ?_; dsimp only)); refine Kd.R_lit k48 _ 48 ?hg (N := 30) ?hd (xs := ([(⟨a1_1, 0, a1_2⟩ : S48)] : List (S48))) (inner := [.int .i64 a1_1, .int .i64 0, .int .i64 a1_2]) (ok := fun _ => True) (okp := fun _ => True) ?hr ?hp (fun _ hk => hk) trivial (Below.refl _ _) (Nat.le_refl _) (by simp) ?_; (case hd => rfl); (case hg => rfl); (case hr => first | (go_simp; done) | (go_simp; rfl)); (case hp => exact (Reps.c3 (show Kd.M k48 _ _ _ (⟨a1_1, 0, a1_2⟩ : S48) [.int .i64 a1_1, .int .i64 0, .int .i64 a1_2] from (k48_mkM _ _ _ (⟨a1_1, 0, a1_2⟩ : S48) )) (Reps.none _ _))); intro v280 w11 ho12 hb hg_ hnew_; clear hg_ hnew_; (first | rw [← Ny279.out] at ho12 | (simp only [Int.reduceToNat] at ho12; rw [← Ny279.out] at ho12)); have n0_ := Aside0.mk (Kd.R_lower ho12 (below_size (by repeat (first | (with_reducible first | exact HB.out | apply below_alloc | apply pw_below_drewN | apply below_drew1 | refine below_set ?_ GE278.out) | exact HB.out)))); have n1_ := Aside0.mk (blk_below (g := gb278) (o := .cells #[.int .i64 a1_0, .int .i64 a1_1, .int .i64 a1_2] 26 (0, 0)) (by (with_reducible repeat (first | refine blk_drewN ?_ _ | refine blk_drew ?_ | refine blk_alloc ?_ _)); exact BK278.out) hb); have n2_ := Aside0.mk (below_step (by repeat (first | (with_reducible first | exact HB.out | apply below_alloc | apply pw_below_drewN | apply below_drew1 | refine below_set ?_ GE278.out) | exact HB.out)) hb); clear BK278; clear HB; have HO281 := n0_; have BK278 := n1_; have HB := n2_; clear n0_ n1_ n2_; clear hb ho12) | ((with_reducible refine gate_builtin (b := .append) (xs := #[.tmp 30, .tmp 31]) rfl ?_); (try (refine gate_guard (by rfl) ?_; dsimp only)); at_builtin; refine Kd.R_append_rows k48 (w0 := w) w.heap.size rfl (.tmp 30) (.tmp 31) 22 48 (.agg #[(.int .i64 0), (.int .i64 0), (.int .i64 0)]) 24 rfl Tryd.underlying22 info48 rfl (by decide) (by omega) v280 y279 l0 _ _ _ (fun _ => True) (fun _ => False) rfl rfl ?aO ?aR (fun _ _ h => h) (fun _ h => h.elim) ?aF ?aB ?aS ?aL ?_; (case aR => repeat (first | exact (Kd.C_below HR0.out HB.out) | (with_reducible refine Kd.C_alloc ?_ _) | (with_reducible refine Kd.C_drewN ?_ _) | (with_reducible refine Kd.C_drew ?_))); (case aB => exact (by repeat (first | (with_reducible first | exact HB.out | apply below_alloc | apply pw_below_drewN | apply below_drew1 | refine below_set ?_ GE278.out) | exact HB.out))); (case aF => exact (fun _ _ => trivial)); (case aO => exact (by (with_reducible repeat (first | apply Kd.R_alloc | apply Kd.R_drewN | apply Kd.R_drew)); exact HO281.out)); (case aS => exact (below_size (by repeat (first | (with_reducible first | exact HB.out | apply below_alloc | apply pw_below_drewN | apply below_drew1 | refine below_set ?_ GE278.out) | exact HB.out)))); (case aL => have := LMc9.out; omega); intro v283 w13 ho hb hg hat; rw [← Ny282.out] at ho; have n0_ := Aside0.mk (blk_grown (g := gb278) (o := .cells #[.int .i64 a1_0, .int .i64 a1_1, .int .i64 a1_2] 26 (0, 0)) (by (with_reducible repeat (first | refine blk_drewN ?_ _ | refine blk_drew ?_ | refine blk_alloc ?_ _)); exact BK278.out) hg (Kd.R_ne HO281.out BK278.out (by decide))); have n1_ := Aside0.mk (hb); have n2_ := Aside0.mk (ho); clear BK278; clear HB; clear HO281; have BK278 := n0_; have HB := n1_; have HO284 := n2_; clear n0_ n1_ n2_; clear ho hb hg hat))
          go_ret3
          exact ⟨_, by first | rfl | (simp [errW_none, errW_some] <;> rfl) | (simp [*, errW_none, errW_some] <;> rfl), by (with_reducible repeat (first | apply Kd.R_alloc | apply Kd.R_drewN | apply Kd.R_drew)); exact HO284.out, by repeat (first | (with_reducible first | exact HB.out | apply below_alloc | apply pw_below_drewN | apply below_drew1 | refine below_set ?_ GE278.out) | exact HB.out)⟩
        · rw [if_neg c9] at H
          exact absurd H (by simp)
      · replace c8 := Bool.eq_false_iff.mpr c8
        subst c8
        have H1 : (if a1_0 = 2 then ((snowlineref02_flow.f kj2 l0 a1_1).bind fun bt285 => (some (bt285.1, bt285.2, 0))) else ((some (([] : List (S48)) : List (S48))).bind fun y289 => (if y289.length + l0.length < 5864062014805 then ((some (y289 ++ l0 : List (S48))).bind fun y292 => (if a1_0 = 4 then (snowlineref02_Do.l0 kj2 y292 a1_1 0) else (snowlineref02_Do.l1 kj2 0 0 y292 0 a1_0 a1_1 a1_2))) else (none)))) = some (r1, r2, r3) := by rw [if_neg (show ¬ (false = true) by decide)] at H; exact H
        clear H
        have H := H1
        clear H1
        by_cases c14 : a1_0 = 2
        · rw [if_pos c14] at H
          have c14b0 : (a1_0 == 2) = true := beq_iff_eq.mpr c14
          have c14b1 : (a1_0 != 2) = false := bne_eq_false_iff_eq.mpr c14
          clear c14
          replace H := Option.bind_eq_some_iff.mp H
          obtain ⟨⟨t285, t286⟩, A150, H⟩ := H
          replace H : (some (t285, t286, 0)) = some (r1, r2, r3) := H
          have A15 := Aside0.mk A150
          clear A150
          simp only [Option.some.injEq, Prod.mk.injEq] at H
          obtain ⟨rfl, rfl, rfl⟩ := H
          have hcz16_0 : wc.cell? ⟨gb278, 0, none⟩ = some (.int .i64 a1_0) := (blk_cell BK278.out 0).trans rfl
          have hcz16_1 : wc.cell? ⟨gb278, 1, none⟩ = some (.int .i64 a1_1) := (blk_cell BK278.out 1).trans rfl
          have hcz16_2 : wc.cell? ⟨gb278, 2, none⟩ = some (.int .i64 a1_2) := (blk_cell BK278.out 2).trans rfl
          have hfz16_0 := blk_frozen BK278.out 0
          have hfz16_1 := blk_frozen BK278.out 1
          have hfz16_2 := blk_frozen BK278.out 2
          go_wp2_with (first | ((with_reducible refine gate_callee (f := 91) rfl ?_); refine goesL_ (some 40) rfl rfl Tryd.func91 (by kernel_rfl) rfl #[.slice A0 l0.length c0, .int .i64 a1_1] rfl (by (try simp only [List.map_toArray, List.map_cons, List.map_nil]); first | done | rfl | (simp only [List.length_drop, List.length_take]; rfl)) ?_; (with_reducible refine (snowlineref02_flow.calls kj2 _ _ l0 a1_1 t285 t286 _ ?side1 ?side2 A15.out).mono ?_); (case side1 => repeat (first | exact (Kd.C_below HR0.out HB.out) | (with_reducible refine Kd.C_alloc ?_ _) | (with_reducible refine Kd.C_drewN ?_ _) | (with_reducible refine Kd.C_drew ?_))); (case side2 => exact HC0.out); rintro e w17 ⟨v287, rfl, ho0, hb⟩; refine ⟨_, rfl, ?_⟩; have n0_ := Aside0.mk (Kd.R_lower ho0 (below_size (by repeat (first | (with_reducible first | exact HB.out | apply below_alloc | apply pw_below_drewN | apply below_drew1 | refine below_set ?_ GE278.out) | exact HB.out)))); have n1_ := Aside0.mk (blk_below (g := gb278) (o := .cells #[.int .i64 a1_0, .int .i64 a1_1, .int .i64 a1_2] 26 (0, 0)) (by (with_reducible repeat (first | refine blk_drewN ?_ _ | refine blk_drew ?_ | refine blk_alloc ?_ _)); exact BK278.out) hb); have n2_ := Aside0.mk (below_step (by repeat (first | (with_reducible first | exact HB.out | apply below_alloc | apply pw_below_drewN | apply below_drew1 | refine below_set ?_ GE278.out) | exact HB.out)) hb); clear BK278; clear HB; have HO288 := n0_; have BK278 := n1_; have HB := n2_; clear n0_ n1_ n2_; (try clear hb); (try clear hb2); (try clear hk); (try clear hi); (try clear ho0)))
          go_ret3
          exact ⟨_, by first | rfl | (simp [errW_none, errW_some] <;> rfl) | (simp [*, errW_none, errW_some] <;> rfl), by (with_reducible repeat (first | apply Kd.R_alloc | apply Kd.R_drewN | apply Kd.R_drew)); exact HO288.out, by repeat (first | (with_reducible first | exact HB.out | apply below_alloc | apply pw_below_drewN | apply below_drew1 | refine below_set ?_ GE278.out) | exact HB.out)⟩
        · rw [if_neg c14] at H
          have c14b0 : (a1_0 == 2) = false := beq_eq_false_iff_ne.mpr c14
          have c14b1 : (a1_0 != 2) = true := bne_iff_ne.mpr c14
          obtain ⟨y289, hy289⟩ : ∃ y_ : List (S48), y_ = (([] : List (S48))) := ⟨_, rfl⟩
          replace H : (if y289.length + l0.length < 5864062014805 then ((some (y289 ++ l0 : List (S48))).bind fun y292 => (if a1_0 = 4 then (snowlineref02_Do.l0 kj2 y292 a1_1 0) else (snowlineref02_Do.l1 kj2 0 0 y292 0 a1_0 a1_1 a1_2))) else (none)) = some (r1, r2, r3) := by first | (rw [hy289]; with_reducible exact H) | (have H2_ := (Option.bind_some _ _).symm.trans H; rw [hy289]; with_reducible exact H2_) | (have H2_ := (Option.bind_some _ _).symm.trans H; with_reducible exact H2_) | with_reducible exact H | (rw [hy289]; exact H) | exact H
          have Ny289 := Aside0.mk hy289
          clear hy289
          by_cases c18 : y289.length + l0.length < 5864062014805
          · rw [if_pos c18] at H
            have LMc18 := Aside0.mk c18
            clear c18
            obtain ⟨y292, hy292⟩ : ∃ y_ : List (S48), y_ = (y289 ++ l0) := ⟨_, rfl⟩
            replace H : (if a1_0 = 4 then (snowlineref02_Do.l0 kj2 y292 a1_1 0) else (snowlineref02_Do.l1 kj2 0 0 y292 0 a1_0 a1_1 a1_2)) = some (r1, r2, r3) := by first | (rw [hy292]; with_reducible exact H) | (have H2_ := (Option.bind_some _ _).symm.trans H; rw [hy292]; with_reducible exact H2_) | (have H2_ := (Option.bind_some _ _).symm.trans H; with_reducible exact H2_) | with_reducible exact H | (rw [hy292]; exact H) | exact H
            have Ny292 := Aside0.mk hy292
            clear hy292
            by_cases c19 : a1_0 = 4
            · rw [if_pos c19] at H
              have c19b0 : (a1_0 == 4) = true := beq_iff_eq.mpr c19
              have c19b1 : (a1_0 != 4) = false := bne_eq_false_iff_eq.mpr c19
              clear c19
              have H' := Aside0.mk H
              clear H
              have hcz20_0 : wc.cell? ⟨gb278, 0, none⟩ = some (.int .i64 a1_0) := (blk_cell BK278.out 0).trans rfl
              have hcz20_1 : wc.cell? ⟨gb278, 1, none⟩ = some (.int .i64 a1_1) := (blk_cell BK278.out 1).trans rfl
              have hcz20_2 : wc.cell? ⟨gb278, 2, none⟩ = some (.int .i64 a1_2) := (blk_cell BK278.out 2).trans rfl
              have hfz20_0 := blk_frozen BK278.out 0
              have hfz20_1 := blk_frozen BK278.out 1
              have hfz20_2 := blk_frozen BK278.out 2
              go_wp2_with (first | ((with_reducible refine gate_dst (N := 45) rfl ?_); (try (refine gate_guard (by rfl) ?_; dsimp only)); refine Kd.R_lit k48 _ 48 ?hg (N := 45) ?hd (xs := ([] : List (S48))) (inner := []) (ok := fun _ => True) (okp := fun _ => True) ?hr ?hp (fun _ hk => hk) trivial (Below.refl _ _) (Nat.le_refl _) (by simp) ?_; (case hd => rfl); (case hg => rfl); (case hr => first | (go_simp; done) | (go_simp; rfl)); (case hp => exact (Reps.none _ _)); intro v290 w21 ho22 hb hg_ hnew_; clear hg_ hnew_; (first | rw [← Ny289.out] at ho22 | (simp only [Int.reduceToNat] at ho22; rw [← Ny289.out] at ho22)); have n0_ := Aside0.mk (Kd.R_lower ho22 (below_size (by repeat (first | (with_reducible first | exact HB.out | apply below_alloc | apply pw_below_drewN | apply below_drew1 | refine below_set ?_ GE278.out) | exact HB.out)))); have n1_ := Aside0.mk (blk_below (g := gb278) (o := .cells #[.int .i64 a1_0, .int .i64 a1_1, .int .i64 a1_2] 26 (0, 0)) (by (with_reducible repeat (first | refine blk_drewN ?_ _ | refine blk_drew ?_ | refine blk_alloc ?_ _)); exact BK278.out) hb); have n2_ := Aside0.mk (below_step (by repeat (first | (with_reducible first | exact HB.out | apply below_alloc | apply pw_below_drewN | apply below_drew1 | refine below_set ?_ GE278.out) | exact HB.out)) hb); clear BK278; clear HB; have HO291 := n0_; have BK278 := n1_; have HB := n2_; clear n0_ n1_ n2_; clear hb ho22) | ((with_reducible refine gate_builtin (b := .append) (xs := #[.tmp 45, .tmp 46]) rfl ?_); (try (refine gate_guard (by rfl) ?_; dsimp only)); at_builtin; refine Kd.R_append_rows k48 (w0 := w) w.heap.size rfl (.tmp 45) (.tmp 46) 22 48 (.agg #[(.int .i64 0), (.int .i64 0), (.int .i64 0)]) 24 rfl Tryd.underlying22 info48 rfl (by decide) (by omega) v290 y289 l0 _ _ _ (fun _ => True) (fun _ => False) rfl rfl ?aO ?aR (fun _ _ h => h) (fun _ h => h.elim) ?aF ?aB ?aS ?aL ?_; (case aR => repeat (first | exact (Kd.C_below HR0.out HB.out) | (with_reducible refine Kd.C_alloc ?_ _) | (with_reducible refine Kd.C_drewN ?_ _) | (with_reducible refine Kd.C_drew ?_))); (case aB => exact (by repeat (first | (with_reducible first | exact HB.out | apply below_alloc | apply pw_below_drewN | apply below_drew1 | refine below_set ?_ GE278.out) | exact HB.out))); (case aF => exact (fun _ _ => trivial)); (case aO => exact (by (with_reducible repeat (first | apply Kd.R_alloc | apply Kd.R_drewN | apply Kd.R_drew)); exact HO291.out)); (case aS => exact (below_size (by repeat (first | (with_reducible first | exact HB.out | apply below_alloc | apply pw_below_drewN | apply below_drew1 | refine below_set ?_ GE278.out) | exact HB.out)))); (case aL => have := LMc18.out; omega); intro v293 w23 ho hb hg hat; rw [← Ny292.out] at ho; have n0_ := Aside0.mk (blk_grown (g := gb278) (o := .cells #[.int .i64 a1_0, .int .i64 a1_1, .int .i64 a1_2] 26 (0, 0)) (by (with_reducible repeat (first | refine blk_drewN ?_ _ | refine blk_drew ?_ | refine blk_alloc ?_ _)); exact BK278.out) hg (Kd.R_ne HO291.out BK278.out (by decide))); have n1_ := Aside0.mk (hb); have n2_ := Aside0.mk (ho); clear BK278; clear HB; clear HO291; have BK278 := n0_; have HB := n1_; have HO294 := n2_; clear n0_ n1_ n2_; clear ho hb hg hat; have hcz24_0 : w23.cell? ⟨gb278, 0, none⟩ = some (.int .i64 a1_0) := (blk_cell BK278.out 0).trans rfl; have hcz24_1 : w23.cell? ⟨gb278, 1, none⟩ = some (.int .i64 a1_1) := (blk_cell BK278.out 1).trans rfl; have hcz24_2 : w23.cell? ⟨gb278, 2, none⟩ = some (.int .i64 a1_2) := (blk_cell BK278.out 2).trans rfl; have hfz24_0 := blk_frozen BK278.out 0; have hfz24_1 := blk_frozen BK278.out 1; have hfz24_2 := blk_frozen BK278.out 2))
              go_loopg [12, 13] kj2 (fun kq v12 v13 w' => ∃ (x11_2 : List (S48)) (x12_2 : Int) (x13_2 : Int), v12 = .int .i64 x12_2 ∧ v13 = .int .i64 x13_2 ∧ Aside0 (snowlineref02_Do.l0 kq x11_2 x12_2 x13_2 = some (r1, r2, r3)) ∧ Aside0 (kq ≤ kj2) ∧ Aside0 (Kd.R k48 48 w' w.heap.size (fun _ => True) v293 x11_2) ∧ Aside0 (w'.heap[gb278]? = some (.cells #[.int .i64 a1_0, .int .i64 a1_1, .int .i64 a1_2] 26 (0, 0))) ∧ Aside0 (Below w.heap.size w w'))
              case atStart => exact ⟨(y292), (a1_1), (0), (by first | rfl | (simp; done) | (simp [*]; done)), (by first | rfl | (simp; done) | (simp [*]; done)), H', ⟨Nat.le_refl _⟩, ⟨by (with_reducible repeat (first | apply Kd.R_alloc | apply Kd.R_drewN | apply Kd.R_drew)); exact HO294.out⟩, ⟨by (with_reducible repeat (first | refine blk_drewN ?_ _ | refine blk_drew ?_ | refine blk_alloc ?_ _)); exact BK278.out⟩, ⟨by repeat (first | (with_reducible first | exact HB.out | apply below_alloc | apply pw_below_drewN | apply below_drew1 | refine below_set ?_ GE278.out) | exact HB.out)⟩⟩
              case round =>
                clear H'
                try clear c1
                try clear p2
                try clear c3
                try clear c5
                try clear c5b0
                try clear c5b1
                try clear c6
                try clear c8
                try clear c9
                try clear c14
                try clear c14b0
                try clear c14b1
                try clear c18
                try clear c19
                try clear c19b0
                try clear c19b1
                try clear hcz10_0
                try clear hcz10_1
                try clear hcz10_2
                try clear hcz16_0
                try clear hcz16_1
                try clear hcz16_2
                try clear hcz20_0
                try clear hcz20_1
                try clear hcz20_2
                try clear hcz24_0
                try clear hcz24_1
                try clear hcz24_2
                try clear hcz6_0
                try clear hcz6_1
                try clear hcz6_2
                try clear hcz7_0
                try clear hcz7_1
                try clear hcz7_2
                try clear hfz10_0
                try clear hfz10_1
                try clear hfz10_2
                try clear hfz16_0
                try clear hfz16_1
                try clear hfz16_2
                try clear hfz20_0
                try clear hfz20_1
                try clear hfz20_2
                try clear hfz24_0
                try clear hfz24_1
                try clear hfz24_2
                try clear hfz6_0
                try clear hfz6_1
                try clear hfz6_2
                try clear hfz7_0
                try clear hfz7_1
                try clear hfz7_2
                try clear p2
                obtain ⟨x11_2, x12_2, x13_2, rfl, rfl, HA, HK2, HO_11, BK278, HB⟩ := hrel
                cases gk with
                | zero => exact absurd HA.out (by simp [snowlineref02_Do.l0])
                | succ k2 =>
                  have H := HA.out
                  clear HA
                  simp only [snowlineref02_Do.l0] at H
                  by_cases c25 : x13_2 < (x11_2.length : Int)
                  · rw [if_pos c25] at H
                    have c25b0 : decide (x13_2 < (x11_2.length : Int)) = true := decide_eq_true c25
                    clear c25
                    by_cases c26 : 0 ≤ x13_2
                    · rw [if_pos c26] at H
                      have c26b0 : decide (0 ≤ x13_2) = true := decide_eq_true c26
                      clear c26
                      obtain ⟨ji27, hji27⟩ : ∃ j_ : Int, (mn x12_2 ((rd_T48 x11_2 x13_2).f1)) = j_ := ⟨_, rfl⟩
                      replace H : ((some (x11_2.set (x13_2 : Int).toNat (⟨(rd_T48 x11_2 x13_2).f0, wrap64 (((rd_T48 x11_2 x13_2).f1) - (ji27)), (rd_T48 x11_2 x13_2).f2⟩ : S48) : List (S48))).bind fun y297 => (snowlineref02_Do.l0 k2 (y297.set (x13_2 : Int).toNat (⟨wrap64 (((rd_T48 y297 x13_2).f0) + (ji27)), (rd_T48 y297 x13_2).f1, (rd_T48 y297 x13_2).f2⟩ : S48)) (wrap64 (x12_2 - (ji27))) (wrap64 (x13_2 + 1)))) = some (r1, r2, r3) := by first | (rw [hji27] at H; exact H) | (simp only [hji27] at H ⊢; exact H)
                      have hji27_ : (if ((rd_T48 x11_2 x13_2).f1) < x12_2 then ((rd_T48 x11_2 x13_2).f1) else x12_2) = ji27 := hji27
                      obtain ⟨y297, hy297⟩ : ∃ y_ : List (S48), y_ = (x11_2.set (x13_2 : Int).toNat (⟨(rd_T48 x11_2 x13_2).f0, wrap64 (((rd_T48 x11_2 x13_2).f1) - (ji27)), (rd_T48 x11_2 x13_2).f2⟩ : S48)) := ⟨_, rfl⟩
                      replace H : (snowlineref02_Do.l0 k2 (y297.set (x13_2 : Int).toNat (⟨wrap64 (((rd_T48 y297 x13_2).f0) + (ji27)), (rd_T48 y297 x13_2).f1, (rd_T48 y297 x13_2).f2⟩ : S48)) (wrap64 (x12_2 - (ji27))) (wrap64 (x13_2 + 1))) = some (r1, r2, r3) := by first | (rw [hy297]; with_reducible exact H) | (have H2_ := (Option.bind_some _ _).symm.trans H; rw [hy297]; with_reducible exact H2_) | (have H2_ := (Option.bind_some _ _).symm.trans H; with_reducible exact H2_) | with_reducible exact H | (rw [hy297]; exact H) | exact H
                      have Ny297 := Aside0.mk hy297
                      clear hy297
                      obtain ⟨y299, hy299⟩ : ∃ y_ : List (S48), y_ = (y297.set (x13_2 : Int).toNat (⟨wrap64 (((rd_T48 y297 x13_2).f0) + (ji27)), (rd_T48 y297 x13_2).f1, (rd_T48 y297 x13_2).f2⟩ : S48)) := ⟨_, rfl⟩
                      replace H : (snowlineref02_Do.l0 k2 y299 (wrap64 (x12_2 - (ji27))) (wrap64 (x13_2 + 1))) = some (r1, r2, r3) := by first | (rw [hy299]; with_reducible exact H) | (have H2_ := (Option.bind_some _ _).symm.trans H; rw [hy299]; with_reducible exact H2_) | (have H2_ := (Option.bind_some _ _).symm.trans H; with_reducible exact H2_) | with_reducible exact H | (rw [hy299]; exact H) | exact H
                      have Ny299 := Aside0.mk hy299
                      clear hy299
                      have H' := Aside0.mk H
                      clear H
                      obtain ⟨Ao30, co30, eo30⟩ := Kd.R_slice HO_11.out
                      subst eo30
                      have p295 : 0 ≤ (x13_2 : Int) := of_decide_eq_true (by first | (with_reducible assumption) | assumption)
                      have q295 : x13_2 < (x11_2.length : Int) := of_decide_eq_true (by first | (with_reducible assumption) | assumption)
                      obtain ⟨ad295, e295, hx295_0, hx295_1, hx295_2⟩ := at_T48 (Kd.R_reads' HO_11.out).2.2 x13_2 p295 q295
                      cases e295
                      replace p295 := eq_true p295
                      replace q295 := eq_true q295
                      have p296 : 0 ≤ (x13_2 : Int) := of_decide_eq_true (by first | (with_reducible assumption) | assumption)
                      have q296 : x13_2 < (x11_2.length : Int) := of_decide_eq_true (by first | (with_reducible assumption) | assumption)
                      obtain ⟨ad296, e296, hx296_0, hx296_1, hx296_2⟩ := at_T48 (Kd.R_reads' HO_11.out).2.2 x13_2 p296 q296
                      obtain rfl : ad295 = ad296 := (by injection e296)
                      replace p296 := eq_true p296
                      replace q296 := eq_true q296
                      have p28 : 0 ≤ (x13_2 : Int) := of_decide_eq_true (by first | (with_reducible assumption) | assumption)
                      have q28 : (x13_2 : Int) < ((x11_2.length : Int) : Int) := of_decide_eq_true (by first | (with_reducible assumption) | assumption)
                      obtain ⟨go28, co28, eo28, gb28, gl28, cl28, HG28⟩ := Kd.R_form HO_11.out (by omega)
                      (first | cases eo28 | (injection eo28 with ea_ en_ ec_; (first | subst ea_ | (injection ea_ with ea_; subst ea_)); subst ec_; clear en_))
                      have GB28 := Aside0.mk gb28
                      have GG28 := Aside0.mk HG28
                      clear gb28 gl28 HG28
                      (first | simp only [add_plain] at hx295_0 | skip)
                      (first | simp only [add_plain] at hx295_1 | skip)
                      (first | simp only [add_plain] at hx295_2 | skip)
                      (first | simp only [add_plain] at hx296_0 | skip)
                      (first | simp only [add_plain] at hx296_1 | skip)
                      (first | simp only [add_plain] at hx296_2 | skip)
                      obtain ⟨ce28, hcl28, hM28, hcc28, hfr28⟩ := Kd.R_elem HO_11.out z48 (x13_2 : Int) p28 q28
                      obtain rfl := k48_openM hM28
                      have hx28_0 : wr.cell? ⟨go28, (x13_2 : Int).toNat * 3, none⟩ = some (.int .i64 ((rd_T48 x11_2 x13_2).f0)) := hcc28 0 _ rfl
                      have hx28_1 : wr.cell? ⟨go28, (x13_2 : Int).toNat * 3 + 1, none⟩ = some (.int .i64 ((rd_T48 x11_2 x13_2).f1)) := hcc28 1 _ rfl
                      have hx28_2 : wr.cell? ⟨go28, (x13_2 : Int).toNat * 3 + 2, none⟩ = some (.int .i64 ((rd_T48 x11_2 x13_2).f2)) := hcc28 2 _ rfl
                      have hf28_0 : wr.frozen? ⟨go28, (x13_2 : Int).toNat * 3, none⟩ = false := hfr28 0
                      have hf28_1 : wr.frozen? ⟨go28, (x13_2 : Int).toNat * 3 + 1, none⟩ = false := hfr28 1
                      have hf28_2 : wr.frozen? ⟨go28, (x13_2 : Int).toNat * 3 + 2, none⟩ = false := hfr28 2
                      clear hcl28 hcc28 hfr28 hM28
                      replace p28 := eq_true p28
                      replace q28 := eq_true q28
                      have HX31 := Aside0.mk (show Kd.R k48 48 wr w.heap.size (fun _ => True) (.slice (some ⟨go28, 0, none⟩) x11_2.length co30) x11_2 from (by (with_reducible repeat (first | apply Kd.R_alloc | apply Kd.R_drewN | apply Kd.R_drew)); exact HO_11.out))
                      obtain ⟨ce31, hcl31, hM31, hcc31, hfr31⟩ := Kd.R_elem HX31.out z48 (x13_2 : Int) (of_decide_eq_true (by first | (with_reducible assumption) | assumption)) (by have h_ : (x13_2 : Int) < ((x11_2.length : Int) : Int) := of_decide_eq_true (by first | (with_reducible assumption) | assumption); first | exact h_ | (have e_ := (Kd.R_reads' HO_11.out).1; omega) | simpa using h_)
                      obtain rfl := k48_openM hM31
                      have HP31 := Kd.R_seg HX31.out (x13_2 : Int) (of_decide_eq_true (by first | (with_reducible assumption) | assumption)) (by have h_ : (x13_2 : Int) < ((x11_2.length : Int) : Int) := of_decide_eq_true (by first | (with_reducible assumption) | assumption); first | exact h_ | (have e_ := (Kd.R_reads' HO_11.out).1; omega) | simpa using h_) (seg := [.int .i64 (wrap64 (((rd_T48 x11_2 x13_2).f1) - (ji27)))]) (j := 1) hcl31 hcc31 (show 2 ≤ 3 from by decide) (x' := (⟨(rd_T48 x11_2 x13_2).f0, wrap64 (((rd_T48 x11_2 x13_2).f1) - (ji27)), (rd_T48 x11_2 x13_2).f2⟩ : S48)) (k48_mkM _ _ _ (⟨(rd_T48 x11_2 x13_2).f0, wrap64 (((rd_T48 x11_2 x13_2).f1) - (ji27)), (rd_T48 x11_2 x13_2).f2⟩ : S48) ) (fun _ hk => hk)
                      have hx31_1 := hcc31 1 _ rfl
                      (try simp only [show (k48).sz = 3 from rfl, Nat.mul_one, Nat.add_zero] at hx31_1)
                      have hf31_1 := hfr31 1
                      (try simp only [show (k48).sz = 3 from rfl, Nat.mul_one, Nat.add_zero] at hf31_1)
                      clear hcl31 hcc31 hfr31 hM31
                      go_wp2_with (first | ((with_reducible refine gate_store (t := 3) (p := 76) rfl ?_); refine store_event (t := 3) (p := 76) (v := ?vo_w32) (w1 := (wr.setCell ⟨go28, (x13_2 : Int).toNat * 3 + 1, none⟩ (.int .i64 (wrap64 (((rd_T48 x11_2 x13_2).f1) - (ji27)))))) ?hg ?ho ?hn ?hr ?_; (case ho => rfl); (case hg => rfl); (case hn => rfl); (case hr => first | (go_simp; done) | (go_simp; rfl)); intro w32 hw; have hg : wr.grownBy w32 (some go28) := (by rw [hw]; exact HP31.2); have hp_ : Kd.R k48 48 w32 w.heap.size (fun _ => True) (.slice (some ⟨go28, 0, none⟩) x11_2.length co30) y297 := (by rw [hw, Ny297.out]; exact HP31.1); clear HP31; have n0_ := Aside0.mk (hp_); have n1_ := Aside0.mk (blk_grown (g := gb278) (o := .cells #[.int .i64 a1_0, .int .i64 a1_1, .int .i64 a1_2] 26 (0, 0)) (by (with_reducible repeat (first | refine blk_drewN ?_ _ | refine blk_drew ?_ | refine blk_alloc ?_ _)); exact BK278.out) hg (Kd.R_ne HO_11.out BK278.out (by decide))); have n2_ := Aside0.mk ((by rw [hw]; exact below_set (HB.out) GB28.out : Below w.heap.size w w32)); clear HO_11; clear BK278; clear HB; have HO_11 := n0_; have BK278 := n1_; have HB := n2_; clear n0_ n1_ n2_; clear hg hw hp_; have p298 : 0 ≤ (x13_2 : Int) := of_decide_eq_true (by first | (with_reducible assumption) | assumption); have q298 : x13_2 < (y297.length : Int) := (by have h_ : (x13_2 : Int) < ((x11_2.length : Int) : Int) := of_decide_eq_true (by first | (with_reducible assumption) | assumption); first | (have e_ := (Kd.R_reads' HO_11.out).1; omega) | simpa only [Ny297.out, List.length_set] using h_); have ql298 : ((x13_2 : Int) < ((x11_2.length : Int) : Int)) = True := eq_true (of_decide_eq_true (by first | (with_reducible assumption) | assumption)); obtain ⟨ad298, e298, hx298_0, hx298_1, hx298_2⟩ := at_T48 (Kd.R_reads' HO_11.out).2.2 x13_2 p298 q298; obtain rfl : (⟨go28, 0, none⟩ : Addr) = ad298 := (by injection e298); (first | simp only [add_plain] at hx298_0 | simp only [add_at] at hx298_0 | simp only [Addr.add, Nat.zero_add] at hx298_0 | skip); (first | simp only [add_plain] at hx298_1 | simp only [add_at] at hx298_1 | simp only [Addr.add, Nat.zero_add] at hx298_1 | skip); (first | simp only [add_plain] at hx298_2 | simp only [add_at] at hx298_2 | simp only [Addr.add, Nat.zero_add] at hx298_2 | skip); replace p298 := eq_true p298; replace q298 := eq_true q298; have p29 : 0 ≤ (x13_2 : Int) := of_decide_eq_true (by first | (with_reducible assumption) | assumption); have q29 : (x13_2 : Int) < ((x11_2.length : Int) : Int) := of_decide_eq_true (by first | (with_reducible assumption) | assumption); obtain ⟨ce29, hcl29, hM29, hcc29, hfr29⟩ := Kd.R_elem HO_11.out z48 (x13_2 : Int) p29 q29; obtain rfl := k48_openM hM29; have hx29_0 : w32.cell? ⟨go28, (x13_2 : Int).toNat * 3, none⟩ = some (.int .i64 ((rd_T48 y297 x13_2).f0)) := hcc29 0 _ rfl; have hx29_1 : w32.cell? ⟨go28, (x13_2 : Int).toNat * 3 + 1, none⟩ = some (.int .i64 ((rd_T48 y297 x13_2).f1)) := hcc29 1 _ rfl; have hx29_2 : w32.cell? ⟨go28, (x13_2 : Int).toNat * 3 + 2, none⟩ = some (.int .i64 ((rd_T48 y297 x13_2).f2)) := hcc29 2 _ rfl; have hf29_0 : w32.frozen? ⟨go28, (x13_2 : Int).toNat * 3, none⟩ = false := hfr29 0; have hf29_1 : w32.frozen? ⟨go28, (x13_2 : Int).toNat * 3 + 1, none⟩ = false := hfr29 1; have hf29_2 : w32.frozen? ⟨go28, (x13_2 : Int).toNat * 3 + 2, none⟩ = false := hfr29 2; clear hcl29 hcc29 hfr29 hM29; replace p29 := eq_true p29; replace q29 := eq_true q29; have HX33 := Aside0.mk (show Kd.R k48 48 w32 w.heap.size (fun _ => True) (.slice (some ⟨go28, 0, none⟩) x11_2.length co30) y297 from (by (with_reducible repeat (first | apply Kd.R_alloc | apply Kd.R_drewN | apply Kd.R_drew)); exact HO_11.out)); obtain ⟨ce33, hcl33, hM33, hcc33, hfr33⟩ := Kd.R_elem HX33.out z48 (x13_2 : Int) (of_decide_eq_true (by first | (with_reducible assumption) | assumption)) (by have h_ : (x13_2 : Int) < ((x11_2.length : Int) : Int) := of_decide_eq_true (by first | (with_reducible assumption) | assumption); first | exact h_ | (have e_ := (Kd.R_reads' HO_11.out).1; omega) | simpa using h_); obtain rfl := k48_openM hM33; have HP33 := Kd.R_seg HX33.out (x13_2 : Int) (of_decide_eq_true (by first | (with_reducible assumption) | assumption)) (by have h_ : (x13_2 : Int) < ((x11_2.length : Int) : Int) := of_decide_eq_true (by first | (with_reducible assumption) | assumption); first | exact h_ | (have e_ := (Kd.R_reads' HO_11.out).1; omega) | simpa using h_) (seg := [.int .i64 (wrap64 (((rd_T48 y297 x13_2).f0) + (ji27)))]) (j := 0) hcl33 hcc33 (show 1 ≤ 3 from by decide) (x' := (⟨wrap64 (((rd_T48 y297 x13_2).f0) + (ji27)), (rd_T48 y297 x13_2).f1, (rd_T48 y297 x13_2).f2⟩ : S48)) (k48_mkM _ _ _ (⟨wrap64 (((rd_T48 y297 x13_2).f0) + (ji27)), (rd_T48 y297 x13_2).f1, (rd_T48 y297 x13_2).f2⟩ : S48) ) (fun _ hk => hk); have hx33_0 := hcc33 0 _ rfl; (try simp only [show (k48).sz = 3 from rfl, Nat.mul_one, Nat.add_zero] at hx33_0); have hf33_0 := hfr33 0; (try simp only [show (k48).sz = 3 from rfl, Nat.mul_one, Nat.add_zero] at hf33_0); clear hcl33 hcc33 hfr33 hM33) | ((with_reducible refine gate_store (t := 3) (p := 87) rfl ?_); refine store_event (t := 3) (p := 87) (v := ?vo_w34) (w1 := (w32.setCell ⟨go28, (x13_2 : Int).toNat * 3, none⟩ (.int .i64 (wrap64 (((rd_T48 y297 x13_2).f0) + (ji27)))))) ?hg ?ho ?hn ?hr ?_; (case ho => rfl); (case hg => rfl); (case hn => rfl); (case hr => first | (go_simp; done) | (go_simp; rfl)); intro w34 hw; have hg : w32.grownBy w34 (some go28) := (by rw [hw]; exact HP33.2); have hp_ : Kd.R k48 48 w34 w.heap.size (fun _ => True) (.slice (some ⟨go28, 0, none⟩) x11_2.length co30) y299 := (by rw [hw, Ny299.out]; exact HP33.1); clear HP33; have n0_ := Aside0.mk (hp_); have n1_ := Aside0.mk (blk_grown (g := gb278) (o := .cells #[.int .i64 a1_0, .int .i64 a1_1, .int .i64 a1_2] 26 (0, 0)) (by (with_reducible repeat (first | refine blk_drewN ?_ _ | refine blk_drew ?_ | refine blk_alloc ?_ _)); exact BK278.out) hg (Kd.R_ne HO_11.out BK278.out (by decide))); have n2_ := Aside0.mk ((by rw [hw]; exact below_set (HB.out) GB28.out : Below w.heap.size w w34)); clear HO_11; clear BK278; clear HB; have HO_11 := n0_; have BK278 := n1_; have HB := n2_; clear n0_ n1_ n2_; clear hg hw hp_))
                      go_roundg k2
                      case measure => have := HJ2.out; have := HK2.out; omega
                      case rel => exact ⟨(y299), (wrap64 (x12_2 - (ji27))), (wrap64 (x13_2 + 1)), (by first | rfl | (simp; done) | (simp only [← hji27] <;> (first | rfl | simp)) | (simp [*]; done)), (by first | rfl | (simp; done) | (simp [*]; done)), H', ⟨by have := HJ2.out; have := HK2.out; omega⟩, ⟨by (with_reducible repeat (first | apply Kd.R_alloc | apply Kd.R_drewN | apply Kd.R_drew)); exact HO_11.out⟩, ⟨by (with_reducible repeat (first | refine blk_drewN ?_ _ | refine blk_drew ?_ | refine blk_alloc ?_ _)); exact BK278.out⟩, ⟨by repeat (first | (with_reducible first | exact HB.out | apply below_alloc | apply pw_below_drewN | apply below_drew1 | refine below_set ?_ GE278.out) | exact HB.out)⟩⟩
                    · rw [if_neg c26] at H
                      exact absurd H (by simp)
                  · rw [if_neg c25] at H
                    have c25b0 : decide (x13_2 < (x11_2.length : Int)) = false := decide_eq_false c25
                    clear c25
                    by_cases c35 : (x11_2.length : Int) > 0
                    · rw [if_pos c35] at H
                      have c35b0 : decide (0 < (x11_2.length : Int)) = true := decide_eq_true c35
                      have c35b1 : decide (0 < x11_2.length) = true := decide_eq_true (by omega)
                      clear c35
                      by_cases c36 : 0 < (x11_2.length : Int)
                      · rw [if_pos c36] at H
                        have c36b0 : decide (0 < (x11_2.length : Int)) = true := decide_eq_true c36
                        have c36b1 : decide (0 < x11_2.length) = true := decide_eq_true (by omega)
                        clear c36
                        obtain ⟨y301, hy301⟩ : ∃ y_ : List (S48), y_ = (x11_2.set (0 : Int).toNat (⟨(rd_T48 x11_2 0).f0, (rd_T48 x11_2 0).f1, wrap64 (((rd_T48 x11_2 0).f2) + x12_2)⟩ : S48)) := ⟨_, rfl⟩
                        replace H : (some (y301, 0, 0)) = some (r1, r2, r3) := by first | (rw [hy301]; with_reducible exact H) | (have H2_ := (Option.bind_some _ _).symm.trans H; rw [hy301]; with_reducible exact H2_) | (have H2_ := (Option.bind_some _ _).symm.trans H; with_reducible exact H2_) | with_reducible exact H | (rw [hy301]; exact H) | exact H
                        have Ny301 := Aside0.mk hy301
                        clear hy301
                        simp only [Option.some.injEq, Prod.mk.injEq] at H
                        obtain ⟨rfl, rfl, rfl⟩ := H
                        obtain ⟨Ao38, co38, eo38⟩ := Kd.R_slice HO_11.out
                        subst eo38
                        have p300 : 0 ≤ (0 : Int) := (by omega)
                        have q300 : 0 < (x11_2.length : Int) := of_decide_eq_true (by first | (with_reducible assumption) | assumption)
                        obtain ⟨ad300, e300, hx300_0, hx300_1, hx300_2⟩ := at_T48 (Kd.R_reads' HO_11.out).2.2 0 p300 q300
                        cases e300
                        have qi300 : (0 < x11_2.length) = True := eq_true (by omega)
                        (try rw [show ((0 : Int)).toNat = 0 from rfl] at hx300_0)
                        (try rw [show 0 * 3 = 0 from rfl] at hx300_0)
                        (try rw [Addr.add_zero'] at hx300_0)
                        (try rw [show ((0 : Int)).toNat = 0 from rfl] at hx300_1)
                        (try rw [show 0 * 3 = 0 from rfl] at hx300_1)
                        (try rw [Addr.add_zero'] at hx300_1)
                        (try rw [show ((0 : Int)).toNat = 0 from rfl] at hx300_2)
                        (try rw [show 0 * 3 = 0 from rfl] at hx300_2)
                        (try rw [Addr.add_zero'] at hx300_2)
                        replace p300 := eq_true p300
                        replace q300 := eq_true q300
                        have p37 : 0 ≤ (0 : Int) := (by omega)
                        have q37 : (0 : Int) < ((x11_2.length : Int) : Int) := of_decide_eq_true (by first | (with_reducible assumption) | assumption)
                        have qi37 : (0 < x11_2.length) = True := eq_true (by omega)
                        obtain ⟨go37, co37, eo37, gb37, gl37, cl37, HG37⟩ := Kd.R_form HO_11.out (by omega)
                        (first | cases eo37 | (injection eo37 with ea_ en_ ec_; (first | subst ea_ | (injection ea_ with ea_; subst ea_)); subst ec_; clear en_))
                        have GB37 := Aside0.mk gb37
                        have GG37 := Aside0.mk HG37
                        clear gb37 gl37 HG37
                        (first | simp only [add_plain] at hx300_0 | skip)
                        (first | simp only [add_plain] at hx300_1 | skip)
                        (first | simp only [add_plain] at hx300_2 | skip)
                        obtain ⟨ce37, hcl37, hM37, hcc37, hfr37⟩ := Kd.R_elem HO_11.out z48 (0 : Int) p37 q37
                        obtain rfl := k48_openM hM37
                        have hx37_0 : wr.cell? ⟨go37, (0 : Int).toNat * 3, none⟩ = some (.int .i64 ((rd_T48 x11_2 0).f0)) := hcc37 0 _ rfl
                        have hx37_1 : wr.cell? ⟨go37, (0 : Int).toNat * 3 + 1, none⟩ = some (.int .i64 ((rd_T48 x11_2 0).f1)) := hcc37 1 _ rfl
                        have hx37_2 : wr.cell? ⟨go37, (0 : Int).toNat * 3 + 2, none⟩ = some (.int .i64 ((rd_T48 x11_2 0).f2)) := hcc37 2 _ rfl
                        have hf37_0 : wr.frozen? ⟨go37, (0 : Int).toNat * 3, none⟩ = false := hfr37 0
                        have hf37_1 : wr.frozen? ⟨go37, (0 : Int).toNat * 3 + 1, none⟩ = false := hfr37 1
                        have hf37_2 : wr.frozen? ⟨go37, (0 : Int).toNat * 3 + 2, none⟩ = false := hfr37 2
                        clear hcl37 hcc37 hfr37 hM37
                        (try rw [show ((0 : Int)).toNat = 0 from rfl] at hx37_0)
                        (try simp only [Nat.reduceMul, Nat.zero_mul, Nat.zero_add, Nat.reduceAdd] at hx37_0)
                        (try rw [show ((0 : Int)).toNat = 0 from rfl] at hf37_0)
                        (try simp only [Nat.reduceMul, Nat.zero_mul, Nat.zero_add, Nat.reduceAdd] at hf37_0)
                        (try rw [show ((0 : Int)).toNat = 0 from rfl] at hx37_1)
                        (try simp only [Nat.reduceMul, Nat.zero_mul, Nat.zero_add, Nat.reduceAdd] at hx37_1)
                        (try rw [show ((0 : Int)).toNat = 0 from rfl] at hf37_1)
                        (try simp only [Nat.reduceMul, Nat.zero_mul, Nat.zero_add, Nat.reduceAdd] at hf37_1)
                        (try rw [show ((0 : Int)).toNat = 0 from rfl] at hx37_2)
                        (try simp only [Nat.reduceMul, Nat.zero_mul, Nat.zero_add, Nat.reduceAdd] at hx37_2)
                        (try rw [show ((0 : Int)).toNat = 0 from rfl] at hf37_2)
                        (try simp only [Nat.reduceMul, Nat.zero_mul, Nat.zero_add, Nat.reduceAdd] at hf37_2)
                        replace p37 := eq_true p37
                        replace q37 := eq_true q37
                        have HX39 := Aside0.mk (show Kd.R k48 48 wr w.heap.size (fun _ => True) (.slice (some ⟨go37, 0, none⟩) x11_2.length co38) x11_2 from (by (with_reducible repeat (first | apply Kd.R_alloc | apply Kd.R_drewN | apply Kd.R_drew)); exact HO_11.out))
                        obtain ⟨ce39, hcl39, hM39, hcc39, hfr39⟩ := Kd.R_elem HX39.out z48 (0 : Int) (by omega) (by have h_ : (0 : Int) < ((x11_2.length : Int) : Int) := of_decide_eq_true (by first | (with_reducible assumption) | assumption); first | exact h_ | (have e_ := (Kd.R_reads' HO_11.out).1; omega) | simpa using h_)
                        obtain rfl := k48_openM hM39
                        have HP39 := Kd.R_seg HX39.out (0 : Int) (by omega) (by have h_ : (0 : Int) < ((x11_2.length : Int) : Int) := of_decide_eq_true (by first | (with_reducible assumption) | assumption); first | exact h_ | (have e_ := (Kd.R_reads' HO_11.out).1; omega) | simpa using h_) (seg := [.int .i64 (wrap64 (((rd_T48 x11_2 0).f2) + x12_2))]) (j := 2) hcl39 hcc39 (show 3 ≤ 3 from by decide) (x' := (⟨(rd_T48 x11_2 0).f0, (rd_T48 x11_2 0).f1, wrap64 (((rd_T48 x11_2 0).f2) + x12_2)⟩ : S48)) (k48_mkM _ _ _ (⟨(rd_T48 x11_2 0).f0, (rd_T48 x11_2 0).f1, wrap64 (((rd_T48 x11_2 0).f2) + x12_2)⟩ : S48) ) (fun _ hk => hk)
                        have hx39_2 := hcc39 2 _ rfl
                        (try simp only [show (k48).sz = 3 from rfl, Nat.mul_one, Nat.add_zero] at hx39_2)
                        (try rw [show ((0 : Int)).toNat = 0 from rfl] at hx39_2)
                        (try simp only [Nat.reduceMul, Nat.zero_mul, Nat.zero_add, Nat.reduceAdd] at hx39_2)
                        have hf39_2 := hfr39 2
                        (try simp only [show (k48).sz = 3 from rfl, Nat.mul_one, Nat.add_zero] at hf39_2)
                        (try rw [show ((0 : Int)).toNat = 0 from rfl] at hf39_2)
                        (try simp only [Nat.reduceMul, Nat.zero_mul, Nat.zero_add, Nat.reduceAdd] at hf39_2)
                        clear hcl39 hcc39 hfr39 hM39
                        go_wp2_with (first | ((with_reducible refine gate_store (t := 3) (p := 102) rfl ?_); refine store_event (t := 3) (p := 102) (v := ?vo_w40) (w1 := (wr.setCell ⟨go37, 2, none⟩ (.int .i64 (wrap64 (((rd_T48 x11_2 0).f2) + x12_2))))) ?hg ?ho ?hn ?hr ?_; (case ho => rfl); (case hg => rfl); (case hn => rfl); (case hr => first | (go_simp; done) | (go_simp; rfl)); intro w40 hw; have hg : wr.grownBy w40 (some go37) := (by rw [hw]; exact HP39.2); have hp_ : Kd.R k48 48 w40 w.heap.size (fun _ => True) (.slice (some ⟨go37, 0, none⟩) x11_2.length co38) y301 := (by rw [hw, Ny301.out]; exact HP39.1); clear HP39; have n0_ := Aside0.mk (hp_); have n1_ := Aside0.mk (blk_grown (g := gb278) (o := .cells #[.int .i64 a1_0, .int .i64 a1_1, .int .i64 a1_2] 26 (0, 0)) (by (with_reducible repeat (first | refine blk_drewN ?_ _ | refine blk_drew ?_ | refine blk_alloc ?_ _)); exact BK278.out) hg (Kd.R_ne HO_11.out BK278.out (by decide))); have n2_ := Aside0.mk ((by rw [hw]; exact below_set (HB.out) GB37.out : Below w.heap.size w w40)); clear HO_11; clear BK278; clear HB; have HO_11 := n0_; have BK278 := n1_; have HB := n2_; clear n0_ n1_ n2_; clear hg hw hp_))
                        go_ret3
                        exact ⟨_, by first | rfl | (simp [errW_none, errW_some] <;> rfl) | (simp [*, errW_none, errW_some] <;> rfl), by (with_reducible repeat (first | apply Kd.R_alloc | apply Kd.R_drewN | apply Kd.R_drew)); exact HO_11.out, by repeat (first | (with_reducible first | exact HB.out | apply below_alloc | apply pw_below_drewN | apply below_drew1 | refine below_set ?_ GE278.out) | exact HB.out)⟩
                      · rw [if_neg c36] at H
                        exact absurd H (by simp)
                    · rw [if_neg c35] at H
                      have c35b0 : decide (0 < (x11_2.length : Int)) = false := decide_eq_false c35
                      have c35b1 : decide (0 < x11_2.length) = false := decide_eq_false (by omega)
                      clear c35
                      simp only [Option.some.injEq, Prod.mk.injEq] at H
                      obtain ⟨rfl, rfl, rfl⟩ := H
                      obtain ⟨Ao41, co41, eo41⟩ := Kd.R_slice HO_11.out
                      subst eo41
                      go_wp2
                      go_ret3
                      exact ⟨_, by first | rfl | (simp [errW_none, errW_some] <;> rfl) | (simp [*, errW_none, errW_some] <;> rfl), by (with_reducible repeat (first | apply Kd.R_alloc | apply Kd.R_drewN | apply Kd.R_drew)); exact HO_11.out, by repeat (first | (with_reducible first | exact HB.out | apply below_alloc | apply pw_below_drewN | apply below_drew1 | refine below_set ?_ GE278.out) | exact HB.out)⟩
            · rw [if_neg c19] at H
              have c19b0 : (a1_0 == 4) = false := beq_eq_false_iff_ne.mpr c19
              have c19b1 : (a1_0 != 4) = true := bne_iff_ne.mpr c19
              have H' := Aside0.mk H
              clear H
              have hcz42_0 : wc.cell? ⟨gb278, 0, none⟩ = some (.int .i64 a1_0) := (blk_cell BK278.out 0).trans rfl
              have hcz42_1 : wc.cell? ⟨gb278, 1, none⟩ = some (.int .i64 a1_1) := (blk_cell BK278.out 1).trans rfl
              have hcz42_2 : wc.cell? ⟨gb278, 2, none⟩ = some (.int .i64 a1_2) := (blk_cell BK278.out 2).trans rfl
              have hfz42_0 := blk_frozen BK278.out 0
              have hfz42_1 := blk_frozen BK278.out 1
              have hfz42_2 := blk_frozen BK278.out 2
              go_wp2_with (first | ((with_reducible refine gate_dst (N := 45) rfl ?_); (try (refine gate_guard (by rfl) ?_; dsimp only)); refine Kd.R_lit k48 _ 48 ?hg (N := 45) ?hd (xs := ([] : List (S48))) (inner := []) (ok := fun _ => True) (okp := fun _ => True) ?hr ?hp (fun _ hk => hk) trivial (Below.refl _ _) (Nat.le_refl _) (by simp) ?_; (case hd => rfl); (case hg => rfl); (case hr => first | (go_simp; done) | (go_simp; rfl)); (case hp => exact (Reps.none _ _)); intro v290 w43 ho44 hb hg_ hnew_; clear hg_ hnew_; (first | rw [← Ny289.out] at ho44 | (simp only [Int.reduceToNat] at ho44; rw [← Ny289.out] at ho44)); have n0_ := Aside0.mk (Kd.R_lower ho44 (below_size (by repeat (first | (with_reducible first | exact HB.out | apply below_alloc | apply pw_below_drewN | apply below_drew1 | refine below_set ?_ GE278.out) | exact HB.out)))); have n1_ := Aside0.mk (blk_below (g := gb278) (o := .cells #[.int .i64 a1_0, .int .i64 a1_1, .int .i64 a1_2] 26 (0, 0)) (by (with_reducible repeat (first | refine blk_drewN ?_ _ | refine blk_drew ?_ | refine blk_alloc ?_ _)); exact BK278.out) hb); have n2_ := Aside0.mk (below_step (by repeat (first | (with_reducible first | exact HB.out | apply below_alloc | apply pw_below_drewN | apply below_drew1 | refine below_set ?_ GE278.out) | exact HB.out)) hb); clear BK278; clear HB; have HO291 := n0_; have BK278 := n1_; have HB := n2_; clear n0_ n1_ n2_; clear hb ho44) | ((with_reducible refine gate_builtin (b := .append) (xs := #[.tmp 45, .tmp 46]) rfl ?_); (try (refine gate_guard (by rfl) ?_; dsimp only)); at_builtin; refine Kd.R_append_rows k48 (w0 := w) w.heap.size rfl (.tmp 45) (.tmp 46) 22 48 (.agg #[(.int .i64 0), (.int .i64 0), (.int .i64 0)]) 24 rfl Tryd.underlying22 info48 rfl (by decide) (by omega) v290 y289 l0 _ _ _ (fun _ => True) (fun _ => False) rfl rfl ?aO ?aR (fun _ _ h => h) (fun _ h => h.elim) ?aF ?aB ?aS ?aL ?_; (case aR => repeat (first | exact (Kd.C_below HR0.out HB.out) | (with_reducible refine Kd.C_alloc ?_ _) | (with_reducible refine Kd.C_drewN ?_ _) | (with_reducible refine Kd.C_drew ?_))); (case aB => exact (by repeat (first | (with_reducible first | exact HB.out | apply below_alloc | apply pw_below_drewN | apply below_drew1 | refine below_set ?_ GE278.out) | exact HB.out))); (case aF => exact (fun _ _ => trivial)); (case aO => exact (by (with_reducible repeat (first | apply Kd.R_alloc | apply Kd.R_drewN | apply Kd.R_drew)); exact HO291.out)); (case aS => exact (below_size (by repeat (first | (with_reducible first | exact HB.out | apply below_alloc | apply pw_below_drewN | apply below_drew1 | refine below_set ?_ GE278.out) | exact HB.out)))); (case aL => have := LMc18.out; omega); intro v293 w45 ho hb hg hat; rw [← Ny292.out] at ho; have n0_ := Aside0.mk (blk_grown (g := gb278) (o := .cells #[.int .i64 a1_0, .int .i64 a1_1, .int .i64 a1_2] 26 (0, 0)) (by (with_reducible repeat (first | refine blk_drewN ?_ _ | refine blk_drew ?_ | refine blk_alloc ?_ _)); exact BK278.out) hg (Kd.R_ne HO291.out BK278.out (by decide))); have n1_ := Aside0.mk (hb); have n2_ := Aside0.mk (ho); clear BK278; clear HB; clear HO291; have BK278 := n0_; have HB := n1_; have HO294 := n2_; clear n0_ n1_ n2_; clear ho hb hg hat; have hcz46_0 : w45.cell? ⟨gb278, 0, none⟩ = some (.int .i64 a1_0) := (blk_cell BK278.out 0).trans rfl; have hcz46_1 : w45.cell? ⟨gb278, 1, none⟩ = some (.int .i64 a1_1) := (blk_cell BK278.out 1).trans rfl; have hcz46_2 : w45.cell? ⟨gb278, 2, none⟩ = some (.int .i64 a1_2) := (blk_cell BK278.out 2).trans rfl; have hfz46_0 := blk_frozen BK278.out 0; have hfz46_1 := blk_frozen BK278.out 1; have hfz46_2 := blk_frozen BK278.out 2))
              go_loopg [7, 8, 11, 15] kj2 (fun kq v7 v8 v11 v15 w' => ∃ (x7_2 : Int) (x8_2 : Int) (x11_2 : List (S48)) (x15_2 : Int), v7 = .int .i64 x7_2 ∧ v8 = .int .i64 x8_2 ∧ v15 = .int .i64 x15_2 ∧ Aside0 (snowlineref02_Do.l1 kq x7_2 x8_2 x11_2 x15_2 a1_0 a1_1 a1_2 = some (r1, r2, r3)) ∧ Aside0 (kq ≤ kj2) ∧ Aside0 (Kd.R k48 48 w' w.heap.size (fun _ => True) v11 x11_2) ∧ Aside0 (w'.heap[gb278]? = some (.cells #[.int .i64 a1_0, .int .i64 a1_1, .int .i64 a1_2] 26 (0, 0))) ∧ Aside0 (Below w.heap.size w w'))
              case atStart => exact ⟨(0), (0), (y292), (0), (by first | rfl | (simp; done) | (simp [*]; done)), (by first | rfl | (simp; done) | (simp [*]; done)), (by first | rfl | (simp; done) | (simp [*]; done)), H', ⟨Nat.le_refl _⟩, ⟨by (with_reducible repeat (first | apply Kd.R_alloc | apply Kd.R_drewN | apply Kd.R_drew)); exact HO294.out⟩, ⟨by (with_reducible repeat (first | refine blk_drewN ?_ _ | refine blk_drew ?_ | refine blk_alloc ?_ _)); exact BK278.out⟩, ⟨by repeat (first | (with_reducible first | exact HB.out | apply below_alloc | apply pw_below_drewN | apply below_drew1 | refine below_set ?_ GE278.out) | exact HB.out)⟩⟩
              case round =>
                clear H'
                try clear c1
                try clear c2
                try clear p2
                try clear q2
                try clear hx2
                try clear hf2
                try clear c3
                try clear p3
                try clear q3
                try clear hx3
                try clear qi3
                try clear hf3
                try clear c5
                try clear c5b0
                try clear c5b1
                try clear c6
                try clear p6
                try clear c8
                try clear c9
                try clear c14
                try clear c14b0
                try clear c14b1
                try clear c18
                try clear c19
                try clear c19b0
                try clear c19b1
                try clear c25
                try clear c25b0
                try clear c26
                try clear c26b0
                try clear c28
                try clear p28
                try clear q28
                try clear hx28
                try clear hf28
                try clear c29
                try clear p29
                try clear q29
                try clear hx29
                try clear hf29
                try clear p30
                try clear q30
                try clear hx30
                try clear qi30
                try clear c31
                try clear hx31
                try clear hf31
                try clear c33
                try clear hx33
                try clear hf33
                try clear c35
                try clear c35b0
                try clear c35b1
                try clear c36
                try clear c36b0
                try clear c36b1
                try clear c37
                try clear p37
                try clear q37
                try clear hx37
                try clear qi37
                try clear hf37
                try clear c39
                try clear hx39
                try clear hf39
                try clear hcz10_0
                try clear hcz10_1
                try clear hcz10_2
                try clear hcz16_0
                try clear hcz16_1
                try clear hcz16_2
                try clear hcz20_0
                try clear hcz20_1
                try clear hcz20_2
                try clear hcz24_0
                try clear hcz24_1
                try clear hcz24_2
                try clear hcz42_0
                try clear hcz42_1
                try clear hcz42_2
                try clear hcz46_0
                try clear hcz46_1
                try clear hcz46_2
                try clear hcz6_0
                try clear hcz6_1
                try clear hcz6_2
                try clear hcz7_0
                try clear hcz7_1
                try clear hcz7_2
                try clear hfz10_0
                try clear hfz10_1
                try clear hfz10_2
                try clear hfz16_0
                try clear hfz16_1
                try clear hfz16_2
                try clear hfz20_0
                try clear hfz20_1
                try clear hfz20_2
                try clear hfz24_0
                try clear hfz24_1
                try clear hfz24_2
                try clear hfz42_0
                try clear hfz42_1
                try clear hfz42_2
                try clear hfz46_0
                try clear hfz46_1
                try clear hfz46_2
                try clear hfz6_0
                try clear hfz6_1
                try clear hfz6_2
                try clear hfz7_0
                try clear hfz7_1
                try clear hfz7_2
                try clear hx28_0
                try clear hx28_1
                try clear hx28_2
                try clear hx295_0
                try clear hx295_1
                try clear hx295_2
                try clear hx296_0
                try clear hx296_1
                try clear hx296_2
                try clear hx298_0
                try clear hx298_1
                try clear hx298_2
                try clear hx29_0
                try clear hx29_1
                try clear hx29_2
                try clear hx300_0
                try clear hx300_1
                try clear hx300_2
                try clear hx31_1
                try clear hx33_0
                try clear hx37_0
                try clear hx37_1
                try clear hx37_2
                try clear hx39_2
                try clear p2
                try clear p28
                try clear p29
                try clear p295
                try clear p296
                try clear p298
                try clear p300
                try clear p37
                try clear q28
                try clear q29
                try clear q295
                try clear q296
                try clear q298
                try clear q300
                try clear q37
                obtain ⟨x7_2, x8_2, x11_2, x15_2, rfl, rfl, rfl, HA, HK2, HO_11, BK278, HB⟩ := hrel
                cases gk with
                | zero => exact absurd HA.out (by simp [snowlineref02_Do.l1])
                | succ k2 =>
                  have H := HA.out
                  clear HA
                  simp only [snowlineref02_Do.l1] at H
                  have HC47 := Aside0.mk H
                  clear H
                  go_upto_region 22 with (fail)
                  go_cut [117] (fun v117 wc => ∃ (kq : Nat) (x117_46 : Bool), v117 = .bool x117_46 ∧ Aside0 (snowlineref02_Do.j3 kq x7_2 x8_2 x11_2 x15_2 x117_46 a1_0 a1_1 a1_2 = some (r1, r2, r3)) ∧ Aside0 (kq ≤ k2) ∧ Aside0 (Kd.R k48 48 wc w.heap.size (fun _ => True) u11 x11_2) ∧ Aside0 (wc.heap[gb278]? = some (.cells #[.int .i64 a1_0, .int .i64 a1_1, .int .i64 a1_2] 26 (0, 0))) ∧ Aside0 (Below w.heap.size w wc))
                  case first =>
                    have H := HC47.out
                    clear HC47
                    by_cases c48 : x15_2 < a1_1
                    · rw [if_pos c48] at H
                      have c48b0 : decide (x15_2 < a1_1) = true := decide_eq_true c48
                      clear c48
                      (first | rw [c48b0] | (simp only [i64_w, i32_w]; rw [c48b0]) | skip)
                      by_cases c49 : (x11_2.length : Int) > 0
                      · rw [if_pos c49] at H
                        have c49b0 : decide (0 < (x11_2.length : Int)) = true := decide_eq_true c49
                        have c49b1 : decide (0 < x11_2.length) = true := decide_eq_true (by omega)
                        clear c49
                        have H' := Aside0.mk H
                        clear H
                        have hcz50_0 : wr.cell? ⟨gb278, 0, none⟩ = some (.int .i64 a1_0) := (blk_cell BK278.out 0).trans rfl
                        have hcz50_1 : wr.cell? ⟨gb278, 1, none⟩ = some (.int .i64 a1_1) := (blk_cell BK278.out 1).trans rfl
                        have hcz50_2 : wr.cell? ⟨gb278, 2, none⟩ = some (.int .i64 a1_2) := (blk_cell BK278.out 2).trans rfl
                        have hfz50_0 := blk_frozen BK278.out 0
                        have hfz50_1 := blk_frozen BK278.out 1
                        have hfz50_2 := blk_frozen BK278.out 2
                        obtain ⟨Ao51, co51, eo51⟩ := Kd.R_slice HO_11.out
                        subst eo51
                        go_wp2
                        go_meet
                        case rel => exact ⟨_, ((a1_0 != 1)), (by first | rfl | (simp; done) | (simp [*]; done)), H', ⟨by have := HJ2.out; have := HK2.out; first | omega | exact Nat.le_refl _⟩, ⟨by (with_reducible repeat (first | apply Kd.R_alloc | apply Kd.R_drewN | apply Kd.R_drew)); exact HO_11.out⟩, ⟨by (with_reducible repeat (first | refine blk_drewN ?_ _ | refine blk_drew ?_ | refine blk_alloc ?_ _)); exact BK278.out⟩, ⟨by repeat (first | (with_reducible first | exact HB.out | apply below_alloc | apply pw_below_drewN | apply below_drew1 | refine below_set ?_ GE278.out) | exact HB.out)⟩⟩
                      · rw [if_neg c49] at H
                        have c49b0 : decide (0 < (x11_2.length : Int)) = false := decide_eq_false c49
                        have c49b1 : decide (0 < x11_2.length) = false := decide_eq_false (by omega)
                        clear c49
                        have H' := Aside0.mk H
                        clear H
                        have hcz52_0 : wr.cell? ⟨gb278, 0, none⟩ = some (.int .i64 a1_0) := (blk_cell BK278.out 0).trans rfl
                        have hcz52_1 : wr.cell? ⟨gb278, 1, none⟩ = some (.int .i64 a1_1) := (blk_cell BK278.out 1).trans rfl
                        have hcz52_2 : wr.cell? ⟨gb278, 2, none⟩ = some (.int .i64 a1_2) := (blk_cell BK278.out 2).trans rfl
                        have hfz52_0 := blk_frozen BK278.out 0
                        have hfz52_1 := blk_frozen BK278.out 1
                        have hfz52_2 := blk_frozen BK278.out 2
                        obtain ⟨Ao53, co53, eo53⟩ := Kd.R_slice HO_11.out
                        subst eo53
                        go_wp2
                        go_meet
                        case rel => exact ⟨_, (false), (by first | rfl | (simp; done) | (simp [*]; done)), H', ⟨by have := HJ2.out; have := HK2.out; first | omega | exact Nat.le_refl _⟩, ⟨by (with_reducible repeat (first | apply Kd.R_alloc | apply Kd.R_drewN | apply Kd.R_drew)); exact HO_11.out⟩, ⟨by (with_reducible repeat (first | refine blk_drewN ?_ _ | refine blk_drew ?_ | refine blk_alloc ?_ _)); exact BK278.out⟩, ⟨by repeat (first | (with_reducible first | exact HB.out | apply below_alloc | apply pw_below_drewN | apply below_drew1 | refine below_set ?_ GE278.out) | exact HB.out)⟩⟩
                    · rw [if_neg c48] at H
                      have c48b0 : decide (x15_2 < a1_1) = false := decide_eq_false c48
                      clear c48
                      (first | rw [c48b0] | (simp only [i64_w, i32_w]; rw [c48b0]) | skip)
                      have H' := Aside0.mk H
                      clear H
                      have hcz54_0 : wr.cell? ⟨gb278, 0, none⟩ = some (.int .i64 a1_0) := (blk_cell BK278.out 0).trans rfl
                      have hcz54_1 : wr.cell? ⟨gb278, 1, none⟩ = some (.int .i64 a1_1) := (blk_cell BK278.out 1).trans rfl
                      have hcz54_2 : wr.cell? ⟨gb278, 2, none⟩ = some (.int .i64 a1_2) := (blk_cell BK278.out 2).trans rfl
                      have hfz54_0 := blk_frozen BK278.out 0
                      have hfz54_1 := blk_frozen BK278.out 1
                      have hfz54_2 := blk_frozen BK278.out 2
                      go_wp2
                      go_meet
                      case rel => exact ⟨_, (false), (by first | rfl | (simp; done) | (simp [*]; done)), H', ⟨by have := HJ2.out; have := HK2.out; first | omega | exact Nat.le_refl _⟩, ⟨by (with_reducible repeat (first | apply Kd.R_alloc | apply Kd.R_drewN | apply Kd.R_drew)); exact HO_11.out⟩, ⟨by (with_reducible repeat (first | refine blk_drewN ?_ _ | refine blk_drew ?_ | refine blk_alloc ?_ _)); exact BK278.out⟩, ⟨by repeat (first | (with_reducible first | exact HB.out | apply below_alloc | apply pw_below_drewN | apply below_drew1 | refine below_set ?_ GE278.out) | exact HB.out)⟩⟩
                  case rest =>
                    clear HC47
                    try clear c1
                    try clear c2
                    try clear p2
                    try clear q2
                    try clear hx2
                    try clear hf2
                    try clear c3
                    try clear p3
                    try clear q3
                    try clear hx3
                    try clear qi3
                    try clear hf3
                    try clear c4
                    try clear c5
                    try clear c5b0
                    try clear c5b1
                    try clear c6
                    try clear p6
                    try clear c8
                    try clear c9
                    try clear c14
                    try clear c14b0
                    try clear c14b1
                    try clear c18
                    try clear c19
                    try clear c19b0
                    try clear c19b1
                    try clear c25
                    try clear c25b0
                    try clear c26
                    try clear c26b0
                    try clear c28
                    try clear p28
                    try clear q28
                    try clear hx28
                    try clear hf28
                    try clear c29
                    try clear p29
                    try clear q29
                    try clear hx29
                    try clear hf29
                    try clear p30
                    try clear q30
                    try clear hx30
                    try clear qi30
                    try clear c31
                    try clear hx31
                    try clear hf31
                    try clear c33
                    try clear hx33
                    try clear hf33
                    try clear c35
                    try clear c35b0
                    try clear c35b1
                    try clear c36
                    try clear c36b0
                    try clear c36b1
                    try clear c37
                    try clear p37
                    try clear q37
                    try clear hx37
                    try clear qi37
                    try clear hf37
                    try clear c39
                    try clear hx39
                    try clear hf39
                    try clear c48
                    try clear c48b0
                    try clear c49
                    try clear c49b0
                    try clear c49b1
                    try clear hcz10_0
                    try clear hcz10_1
                    try clear hcz10_2
                    try clear hcz16_0
                    try clear hcz16_1
                    try clear hcz16_2
                    try clear hcz20_0
                    try clear hcz20_1
                    try clear hcz20_2
                    try clear hcz24_0
                    try clear hcz24_1
                    try clear hcz24_2
                    try clear hcz42_0
                    try clear hcz42_1
                    try clear hcz42_2
                    try clear hcz46_0
                    try clear hcz46_1
                    try clear hcz46_2
                    try clear hcz50_0
                    try clear hcz50_1
                    try clear hcz50_2
                    try clear hcz52_0
                    try clear hcz52_1
                    try clear hcz52_2
                    try clear hcz54_0
                    try clear hcz54_1
                    try clear hcz54_2
                    try clear hcz6_0
                    try clear hcz6_1
                    try clear hcz6_2
                    try clear hcz7_0
                    try clear hcz7_1
                    try clear hcz7_2
                    try clear hfz10_0
                    try clear hfz10_1
                    try clear hfz10_2
                    try clear hfz16_0
                    try clear hfz16_1
                    try clear hfz16_2
                    try clear hfz20_0
                    try clear hfz20_1
                    try clear hfz20_2
                    try clear hfz24_0
                    try clear hfz24_1
                    try clear hfz24_2
                    try clear hfz42_0
                    try clear hfz42_1
                    try clear hfz42_2
                    try clear hfz46_0
                    try clear hfz46_1
                    try clear hfz46_2
                    try clear hfz50_0
                    try clear hfz50_1
                    try clear hfz50_2
                    try clear hfz52_0
                    try clear hfz52_1
                    try clear hfz52_2
                    try clear hfz54_0
                    try clear hfz54_1
                    try clear hfz54_2
                    try clear hfz6_0
                    try clear hfz6_1
                    try clear hfz6_2
                    try clear hfz7_0
                    try clear hfz7_1
                    try clear hfz7_2
                    try clear hx28_0
                    try clear hx28_1
                    try clear hx28_2
                    try clear hx295_0
                    try clear hx295_1
                    try clear hx295_2
                    try clear hx296_0
                    try clear hx296_1
                    try clear hx296_2
                    try clear hx298_0
                    try clear hx298_1
                    try clear hx298_2
                    try clear hx29_0
                    try clear hx29_1
                    try clear hx29_2
                    try clear hx300_0
                    try clear hx300_1
                    try clear hx300_2
                    try clear hx31_1
                    try clear hx33_0
                    try clear hx37_0
                    try clear hx37_1
                    try clear hx37_2
                    try clear hx39_2
                    try clear p2
                    try clear p28
                    try clear p29
                    try clear p295
                    try clear p296
                    try clear p298
                    try clear p3
                    try clear p30
                    try clear p300
                    try clear p37
                    try clear p6
                    try clear q2
                    try clear q28
                    try clear q29
                    try clear q295
                    try clear q296
                    try clear q298
                    try clear q3
                    try clear q30
                    try clear q300
                    try clear q37
                    obtain ⟨kq, x117_46, rfl, HA, HJ46, HO_11, BK278, HB⟩ := hcut
                    cases kq with
                    | zero => exact absurd HA.out (by simp [snowlineref02_Do.j3])
                    | succ kj46 =>
                      have H := HA.out
                      clear HA
                      simp only [snowlineref02_Do.j3] at H
                      by_cases c55 : x117_46 = true
                      · subst c55
                        have H1 : (if a1_0 = 3 then (if 0 < (x11_2.length : Int) then (if ((rd_T48 x11_2 0).f2) > 0 then (snowlineref02_Do.l1 kj46 (wrap64 (x7_2 + 0)) x8_2 (x11_2.set (0 : Int).toNat (⟨(rd_T48 x11_2 0).f0, (rd_T48 x11_2 0).f1, wrap64 (((rd_T48 x11_2 0).f2) - 1)⟩ : S48)) (wrap64 (x15_2 + 1)) a1_0 a1_1 a1_2) else ((snowlineref02_lose.f kj46 x11_2 1).bind fun bt305 => (snowlineref02_Do.l1 kj46 (wrap64 (x7_2 + bt305.2)) x8_2 bt305.1 (wrap64 (x15_2 + 1)) a1_0 a1_1 a1_2))) else (none)) else ((snowlineref02_lose.f kj46 x11_2 0).bind fun bt309 => (snowlineref02_Do.l1 kj46 (wrap64 (x7_2 + bt309.2)) (wrap64 (x8_2 + 1)) bt309.1 (wrap64 (x15_2 + 1)) a1_0 a1_1 a1_2))) = some (r1, r2, r3) := by rw [if_pos rfl] at H; exact H
                        clear H
                        have H := H1
                        clear H1
                        by_cases c56 : a1_0 = 3
                        · rw [if_pos c56] at H
                          have c56b0 : (a1_0 == 3) = true := beq_iff_eq.mpr c56
                          have c56b1 : (a1_0 != 3) = false := bne_eq_false_iff_eq.mpr c56
                          clear c56
                          by_cases c57 : 0 < (x11_2.length : Int)
                          · rw [if_pos c57] at H
                            have c57b0 : decide (0 < (x11_2.length : Int)) = true := decide_eq_true c57
                            have c57b1 : decide (0 < x11_2.length) = true := decide_eq_true (by omega)
                            clear c57
                            by_cases c58 : ((rd_T48 x11_2 0).f2) > 0
                            · rw [if_pos c58] at H
                              have c58b0 : decide (0 < ((rd_T48 x11_2 0).f2)) = true := decide_eq_true c58
                              clear c58
                              obtain ⟨y304, hy304⟩ : ∃ y_ : List (S48), y_ = (x11_2.set (0 : Int).toNat (⟨(rd_T48 x11_2 0).f0, (rd_T48 x11_2 0).f1, wrap64 (((rd_T48 x11_2 0).f2) - 1)⟩ : S48)) := ⟨_, rfl⟩
                              replace H : (snowlineref02_Do.l1 kj46 (wrap64 (x7_2 + 0)) x8_2 y304 (wrap64 (x15_2 + 1)) a1_0 a1_1 a1_2) = some (r1, r2, r3) := by first | (rw [hy304]; with_reducible exact H) | (have H2_ := (Option.bind_some _ _).symm.trans H; rw [hy304]; with_reducible exact H2_) | (have H2_ := (Option.bind_some _ _).symm.trans H; with_reducible exact H2_) | with_reducible exact H | (rw [hy304]; exact H) | exact H
                              have Ny304 := Aside0.mk hy304
                              clear hy304
                              have H' := Aside0.mk H
                              clear H
                              have hcz60_0 : wc.cell? ⟨gb278, 0, none⟩ = some (.int .i64 a1_0) := (blk_cell BK278.out 0).trans rfl
                              have hcz60_1 : wc.cell? ⟨gb278, 1, none⟩ = some (.int .i64 a1_1) := (blk_cell BK278.out 1).trans rfl
                              have hcz60_2 : wc.cell? ⟨gb278, 2, none⟩ = some (.int .i64 a1_2) := (blk_cell BK278.out 2).trans rfl
                              have hfz60_0 := blk_frozen BK278.out 0
                              have hfz60_1 := blk_frozen BK278.out 1
                              have hfz60_2 := blk_frozen BK278.out 2
                              obtain ⟨Ao61, co61, eo61⟩ := Kd.R_slice HO_11.out
                              subst eo61
                              have p302 : 0 ≤ (0 : Int) := (by omega)
                              have q302 : 0 < (x11_2.length : Int) := of_decide_eq_true (by first | (with_reducible assumption) | assumption)
                              obtain ⟨ad302, e302, hx302_0, hx302_1, hx302_2⟩ := at_T48 (Kd.R_reads' HO_11.out).2.2 0 p302 q302
                              cases e302
                              have qi302 : (0 < x11_2.length) = True := eq_true (by omega)
                              (try rw [show ((0 : Int)).toNat = 0 from rfl] at hx302_0)
                              (try rw [show 0 * 3 = 0 from rfl] at hx302_0)
                              (try rw [Addr.add_zero'] at hx302_0)
                              (try rw [show ((0 : Int)).toNat = 0 from rfl] at hx302_1)
                              (try rw [show 0 * 3 = 0 from rfl] at hx302_1)
                              (try rw [Addr.add_zero'] at hx302_1)
                              (try rw [show ((0 : Int)).toNat = 0 from rfl] at hx302_2)
                              (try rw [show 0 * 3 = 0 from rfl] at hx302_2)
                              (try rw [Addr.add_zero'] at hx302_2)
                              replace p302 := eq_true p302
                              replace q302 := eq_true q302
                              have p303 : 0 ≤ (0 : Int) := (by omega)
                              have q303 : 0 < (x11_2.length : Int) := of_decide_eq_true (by first | (with_reducible assumption) | assumption)
                              obtain ⟨ad303, e303, hx303_0, hx303_1, hx303_2⟩ := at_T48 (Kd.R_reads' HO_11.out).2.2 0 p303 q303
                              obtain rfl : ad302 = ad303 := (by injection e303)
                              have qi303 : (0 < x11_2.length) = True := eq_true (by omega)
                              (try rw [show ((0 : Int)).toNat = 0 from rfl] at hx303_0)
                              (try rw [show 0 * 3 = 0 from rfl] at hx303_0)
                              (try rw [Addr.add_zero'] at hx303_0)
                              (try rw [show ((0 : Int)).toNat = 0 from rfl] at hx303_1)
                              (try rw [show 0 * 3 = 0 from rfl] at hx303_1)
                              (try rw [Addr.add_zero'] at hx303_1)
                              (try rw [show ((0 : Int)).toNat = 0 from rfl] at hx303_2)
                              (try rw [show 0 * 3 = 0 from rfl] at hx303_2)
                              (try rw [Addr.add_zero'] at hx303_2)
                              replace p303 := eq_true p303
                              replace q303 := eq_true q303
                              have p59 : 0 ≤ (0 : Int) := (by omega)
                              have q59 : (0 : Int) < ((x11_2.length : Int) : Int) := of_decide_eq_true (by first | (with_reducible assumption) | assumption)
                              have qi59 : (0 < x11_2.length) = True := eq_true (by omega)
                              obtain ⟨go59, co59, eo59, gb59, gl59, cl59, HG59⟩ := Kd.R_form HO_11.out (by omega)
                              (first | cases eo59 | (injection eo59 with ea_ en_ ec_; (first | subst ea_ | (injection ea_ with ea_; subst ea_)); subst ec_; clear en_))
                              have GB59 := Aside0.mk gb59
                              have GG59 := Aside0.mk HG59
                              clear gb59 gl59 HG59
                              (first | simp only [add_plain] at hx302_0 | skip)
                              (first | simp only [add_plain] at hx302_1 | skip)
                              (first | simp only [add_plain] at hx302_2 | skip)
                              (first | simp only [add_plain] at hx303_0 | skip)
                              (first | simp only [add_plain] at hx303_1 | skip)
                              (first | simp only [add_plain] at hx303_2 | skip)
                              obtain ⟨ce59, hcl59, hM59, hcc59, hfr59⟩ := Kd.R_elem HO_11.out z48 (0 : Int) p59 q59
                              obtain rfl := k48_openM hM59
                              have hx59_0 : wc.cell? ⟨go59, (0 : Int).toNat * 3, none⟩ = some (.int .i64 ((rd_T48 x11_2 0).f0)) := hcc59 0 _ rfl
                              have hx59_1 : wc.cell? ⟨go59, (0 : Int).toNat * 3 + 1, none⟩ = some (.int .i64 ((rd_T48 x11_2 0).f1)) := hcc59 1 _ rfl
                              have hx59_2 : wc.cell? ⟨go59, (0 : Int).toNat * 3 + 2, none⟩ = some (.int .i64 ((rd_T48 x11_2 0).f2)) := hcc59 2 _ rfl
                              have hf59_0 : wc.frozen? ⟨go59, (0 : Int).toNat * 3, none⟩ = false := hfr59 0
                              have hf59_1 : wc.frozen? ⟨go59, (0 : Int).toNat * 3 + 1, none⟩ = false := hfr59 1
                              have hf59_2 : wc.frozen? ⟨go59, (0 : Int).toNat * 3 + 2, none⟩ = false := hfr59 2
                              clear hcl59 hcc59 hfr59 hM59
                              (try rw [show ((0 : Int)).toNat = 0 from rfl] at hx59_0)
                              (try simp only [Nat.reduceMul, Nat.zero_mul, Nat.zero_add, Nat.reduceAdd] at hx59_0)
                              (try rw [show ((0 : Int)).toNat = 0 from rfl] at hf59_0)
                              (try simp only [Nat.reduceMul, Nat.zero_mul, Nat.zero_add, Nat.reduceAdd] at hf59_0)
                              (try rw [show ((0 : Int)).toNat = 0 from rfl] at hx59_1)
                              (try simp only [Nat.reduceMul, Nat.zero_mul, Nat.zero_add, Nat.reduceAdd] at hx59_1)
                              (try rw [show ((0 : Int)).toNat = 0 from rfl] at hf59_1)
                              (try simp only [Nat.reduceMul, Nat.zero_mul, Nat.zero_add, Nat.reduceAdd] at hf59_1)
                              (try rw [show ((0 : Int)).toNat = 0 from rfl] at hx59_2)
                              (try simp only [Nat.reduceMul, Nat.zero_mul, Nat.zero_add, Nat.reduceAdd] at hx59_2)
                              (try rw [show ((0 : Int)).toNat = 0 from rfl] at hf59_2)
                              (try simp only [Nat.reduceMul, Nat.zero_mul, Nat.zero_add, Nat.reduceAdd] at hf59_2)
                              replace p59 := eq_true p59
                              replace q59 := eq_true q59
                              have HX62 := Aside0.mk (show Kd.R k48 48 wc w.heap.size (fun _ => True) (.slice (some ⟨go59, 0, none⟩) x11_2.length co61) x11_2 from (by (with_reducible repeat (first | apply Kd.R_alloc | apply Kd.R_drewN | apply Kd.R_drew)); exact HO_11.out))
                              obtain ⟨ce62, hcl62, hM62, hcc62, hfr62⟩ := Kd.R_elem HX62.out z48 (0 : Int) (by omega) (by have h_ : (0 : Int) < ((x11_2.length : Int) : Int) := of_decide_eq_true (by first | (with_reducible assumption) | assumption); first | exact h_ | (have e_ := (Kd.R_reads' HO_11.out).1; omega) | simpa using h_)
                              obtain rfl := k48_openM hM62
                              have HP62 := Kd.R_seg HX62.out (0 : Int) (by omega) (by have h_ : (0 : Int) < ((x11_2.length : Int) : Int) := of_decide_eq_true (by first | (with_reducible assumption) | assumption); first | exact h_ | (have e_ := (Kd.R_reads' HO_11.out).1; omega) | simpa using h_) (seg := [.int .i64 (wrap64 (((rd_T48 x11_2 0).f2) - 1))]) (j := 2) hcl62 hcc62 (show 3 ≤ 3 from by decide) (x' := (⟨(rd_T48 x11_2 0).f0, (rd_T48 x11_2 0).f1, wrap64 (((rd_T48 x11_2 0).f2) - 1)⟩ : S48)) (k48_mkM _ _ _ (⟨(rd_T48 x11_2 0).f0, (rd_T48 x11_2 0).f1, wrap64 (((rd_T48 x11_2 0).f2) - 1)⟩ : S48) ) (fun _ hk => hk)
                              have hx62_2 := hcc62 2 _ rfl
                              (try simp only [show (k48).sz = 3 from rfl, Nat.mul_one, Nat.add_zero] at hx62_2)
                              (try rw [show ((0 : Int)).toNat = 0 from rfl] at hx62_2)
                              (try simp only [Nat.reduceMul, Nat.zero_mul, Nat.zero_add, Nat.reduceAdd] at hx62_2)
                              have hf62_2 := hfr62 2
                              (try simp only [show (k48).sz = 3 from rfl, Nat.mul_one, Nat.add_zero] at hf62_2)
                              (try rw [show ((0 : Int)).toNat = 0 from rfl] at hf62_2)
                              (try simp only [Nat.reduceMul, Nat.zero_mul, Nat.zero_add, Nat.reduceAdd] at hf62_2)
                              clear hcl62 hcc62 hfr62 hM62
                              go_wp2_with (first | ((with_reducible refine gate_store (t := 3) (p := 141) rfl ?_); refine store_event (t := 3) (p := 141) (v := ?vo_w63) (w1 := (wc.setCell ⟨go59, 2, none⟩ (.int .i64 (wrap64 (((rd_T48 x11_2 0).f2) - 1))))) ?hg ?ho ?hn ?hr ?_; (case ho => rfl); (case hg => rfl); (case hn => rfl); (case hr => first | (go_simp; done) | (go_simp; rfl)); intro w63 hw; have hg : wc.grownBy w63 (some go59) := (by rw [hw]; exact HP62.2); have hp_ : Kd.R k48 48 w63 w.heap.size (fun _ => True) (.slice (some ⟨go59, 0, none⟩) x11_2.length co61) y304 := (by rw [hw, Ny304.out]; exact HP62.1); clear HP62; have n0_ := Aside0.mk (hp_); have n1_ := Aside0.mk (blk_grown (g := gb278) (o := .cells #[.int .i64 a1_0, .int .i64 a1_1, .int .i64 a1_2] 26 (0, 0)) (by (with_reducible repeat (first | refine blk_drewN ?_ _ | refine blk_drew ?_ | refine blk_alloc ?_ _)); exact BK278.out) hg (Kd.R_ne HO_11.out BK278.out (by decide))); have n2_ := Aside0.mk ((by rw [hw]; exact below_set (HB.out) GB59.out : Below w.heap.size w w63)); clear HO_11; clear BK278; clear HB; have HO_11 := n0_; have BK278 := n1_; have HB := n2_; clear n0_ n1_ n2_; clear hg hw hp_))
                              go_roundg kj46
                              case measure => have := HJ2.out; have := HK2.out; have := HJ46.out; omega
                              case rel => exact ⟨(wrap64 (x7_2 + 0)), (x8_2), (y304), (wrap64 (x15_2 + 1)), (by first | rfl | (simp; done) | (simp [*]; done)), (by first | rfl | (simp; done) | (simp [*]; done)), (by first | rfl | (simp; done) | (simp [*]; done)), H', ⟨by have := HJ2.out; have := HK2.out; have := HJ46.out; omega⟩, ⟨by (with_reducible repeat (first | apply Kd.R_alloc | apply Kd.R_drewN | apply Kd.R_drew)); exact HO_11.out⟩, ⟨by (with_reducible repeat (first | refine blk_drewN ?_ _ | refine blk_drew ?_ | refine blk_alloc ?_ _)); exact BK278.out⟩, ⟨by repeat (first | (with_reducible first | exact HB.out | apply below_alloc | apply pw_below_drewN | apply below_drew1 | refine below_set ?_ GE278.out) | exact HB.out)⟩⟩
                            · rw [if_neg c58] at H
                              have c58b0 : decide (0 < ((rd_T48 x11_2 0).f2)) = false := decide_eq_false c58
                              clear c58
                              replace H := Option.bind_eq_some_iff.mp H
                              obtain ⟨⟨t305, t306⟩, A640, H⟩ := H
                              replace H : (snowlineref02_Do.l1 kj46 (wrap64 (x7_2 + t306)) x8_2 t305 (wrap64 (x15_2 + 1)) a1_0 a1_1 a1_2) = some (r1, r2, r3) := H
                              have A64 := Aside0.mk A640
                              clear A640
                              have H' := Aside0.mk H
                              clear H
                              have hcz65_0 : wc.cell? ⟨gb278, 0, none⟩ = some (.int .i64 a1_0) := (blk_cell BK278.out 0).trans rfl
                              have hcz65_1 : wc.cell? ⟨gb278, 1, none⟩ = some (.int .i64 a1_1) := (blk_cell BK278.out 1).trans rfl
                              have hcz65_2 : wc.cell? ⟨gb278, 2, none⟩ = some (.int .i64 a1_2) := (blk_cell BK278.out 2).trans rfl
                              have hfz65_0 := blk_frozen BK278.out 0
                              have hfz65_1 := blk_frozen BK278.out 1
                              have hfz65_2 := blk_frozen BK278.out 2
                              obtain ⟨Ao66, co66, eo66⟩ := Kd.R_slice HO_11.out
                              subst eo66
                              have p302 : 0 ≤ (0 : Int) := (by omega)
                              have q302 : 0 < (x11_2.length : Int) := of_decide_eq_true (by first | (with_reducible assumption) | assumption)
                              obtain ⟨ad302, e302, hx302_0, hx302_1, hx302_2⟩ := at_T48 (Kd.R_reads' HO_11.out).2.2 0 p302 q302
                              cases e302
                              have qi302 : (0 < x11_2.length) = True := eq_true (by omega)
                              (try rw [show ((0 : Int)).toNat = 0 from rfl] at hx302_0)
                              (try rw [show 0 * 3 = 0 from rfl] at hx302_0)
                              (try rw [Addr.add_zero'] at hx302_0)
                              (try rw [show ((0 : Int)).toNat = 0 from rfl] at hx302_1)
                              (try rw [show 0 * 3 = 0 from rfl] at hx302_1)
                              (try rw [Addr.add_zero'] at hx302_1)
                              (try rw [show ((0 : Int)).toNat = 0 from rfl] at hx302_2)
                              (try rw [show 0 * 3 = 0 from rfl] at hx302_2)
                              (try rw [Addr.add_zero'] at hx302_2)
                              replace p302 := eq_true p302
                              replace q302 := eq_true q302
                              go_wp2_with (first | ((with_reducible refine gate_callee (f := 92) rfl ?_); refine goesL_ (some 144) rfl rfl Tryd.func92 (by kernel_rfl) rfl #[.slice (some ad302) x11_2.length co66, .int .i64 1] rfl (by (try simp only [List.map_toArray, List.map_cons, List.map_nil]); first | done | rfl | (simp only [List.length_drop, List.length_take]; rfl)) ?_; (with_reducible refine (snowlineref02_lose.calls kj46 _ _ x11_2 1 t305 t306 _ ?side1 ?side2 A64.out).mono ?_); (case side1 => repeat (first | exact (Kd.R_reads' HO_11.out).2.2 | (with_reducible refine Kd.C_alloc ?_ _) | (with_reducible refine Kd.C_drewN ?_ _) | (with_reducible refine Kd.C_drew ?_))); (case side2 => exact (Kd.R_reads' HO_11.out).2.1); rintro e w67 ⟨v307, rfl, ho0, hb⟩; refine ⟨_, rfl, ?_⟩; have n0_ := Aside0.mk (Kd.R_elder' (by (with_reducible repeat (first | apply Kd.R_alloc | apply Kd.R_drewN | apply Kd.R_drew)); exact HO_11.out) (Kd.R_base ho0) hb); have n1_ := Aside0.mk (Kd.R_lower (Kd.R_new' ho0 (Kd.R_lt (by (with_reducible repeat (first | apply Kd.R_alloc | apply Kd.R_drewN | apply Kd.R_drew)); exact HO_11.out))) (below_size (by repeat (first | (with_reducible first | exact HB.out | apply below_alloc | apply pw_below_drewN | apply below_drew1 | refine below_set ?_ GE278.out) | exact HB.out)))); have n2_ := Aside0.mk (blk_below (g := gb278) (o := .cells #[.int .i64 a1_0, .int .i64 a1_1, .int .i64 a1_2] 26 (0, 0)) (by (with_reducible repeat (first | refine blk_drewN ?_ _ | refine blk_drew ?_ | refine blk_alloc ?_ _)); exact BK278.out) hb); have n3_ := Aside0.mk (below_step (by repeat (first | (with_reducible first | exact HB.out | apply below_alloc | apply pw_below_drewN | apply below_drew1 | refine below_set ?_ GE278.out) | exact HB.out)) hb); clear HO_11; clear BK278; clear HB; have HO_11 := n0_; have HO308 := n1_; have BK278 := n2_; have HB := n3_; clear n0_ n1_ n2_ n3_; (try clear hb); (try clear hb2); (try clear hk); (try clear hi); (try clear ho0)))
                              go_roundg kj46
                              case measure => have := HJ2.out; have := HK2.out; have := HJ46.out; omega
                              case rel => exact ⟨(wrap64 (x7_2 + t306)), (x8_2), (t305), (wrap64 (x15_2 + 1)), (by first | rfl | (simp; done) | (simp [*]; done)), (by first | rfl | (simp; done) | (simp [*]; done)), (by first | rfl | (simp; done) | (simp [*]; done)), H', ⟨by have := HJ2.out; have := HK2.out; have := HJ46.out; omega⟩, ⟨by (with_reducible repeat (first | apply Kd.R_alloc | apply Kd.R_drewN | apply Kd.R_drew)); exact Kd.R_mono HO308.out (fun _ hk => trivial)⟩, ⟨by (with_reducible repeat (first | refine blk_drewN ?_ _ | refine blk_drew ?_ | refine blk_alloc ?_ _)); exact BK278.out⟩, ⟨by repeat (first | (with_reducible first | exact HB.out | apply below_alloc | apply pw_below_drewN | apply below_drew1 | refine below_set ?_ GE278.out) | exact HB.out)⟩⟩
                          · rw [if_neg c57] at H
                            exact absurd H (by simp)
                        · rw [if_neg c56] at H
                          have c56b0 : (a1_0 == 3) = false := beq_eq_false_iff_ne.mpr c56
                          have c56b1 : (a1_0 != 3) = true := bne_iff_ne.mpr c56
                          replace H := Option.bind_eq_some_iff.mp H
                          obtain ⟨⟨t309, t310⟩, A680, H⟩ := H
                          replace H : (snowlineref02_Do.l1 kj46 (wrap64 (x7_2 + t310)) (wrap64 (x8_2 + 1)) t309 (wrap64 (x15_2 + 1)) a1_0 a1_1 a1_2) = some (r1, r2, r3) := H
                          have A68 := Aside0.mk A680
                          clear A680
                          have H' := Aside0.mk H
                          clear H
                          have hcz69_0 : wc.cell? ⟨gb278, 0, none⟩ = some (.int .i64 a1_0) := (blk_cell BK278.out 0).trans rfl
                          have hcz69_1 : wc.cell? ⟨gb278, 1, none⟩ = some (.int .i64 a1_1) := (blk_cell BK278.out 1).trans rfl
                          have hcz69_2 : wc.cell? ⟨gb278, 2, none⟩ = some (.int .i64 a1_2) := (blk_cell BK278.out 2).trans rfl
                          have hfz69_0 := blk_frozen BK278.out 0
                          have hfz69_1 := blk_frozen BK278.out 1
                          have hfz69_2 := blk_frozen BK278.out 2
                          obtain ⟨Ao70, co70, eo70⟩ := Kd.R_slice HO_11.out
                          subst eo70
                          go_wp2_with (first | ((with_reducible refine gate_callee (f := 92) rfl ?_); refine goesL_ (some 125) rfl rfl Tryd.func92 (by kernel_rfl) rfl #[.slice Ao70 x11_2.length co70, .int .i64 0] rfl (by (try simp only [List.map_toArray, List.map_cons, List.map_nil]); first | done | rfl | (simp only [List.length_drop, List.length_take]; rfl)) ?_; (with_reducible refine (snowlineref02_lose.calls kj46 _ _ x11_2 0 t309 t310 _ ?side1 ?side2 A68.out).mono ?_); (case side1 => repeat (first | exact (Kd.R_reads' HO_11.out).2.2 | (with_reducible refine Kd.C_alloc ?_ _) | (with_reducible refine Kd.C_drewN ?_ _) | (with_reducible refine Kd.C_drew ?_))); (case side2 => exact (Kd.R_reads' HO_11.out).2.1); rintro e w71 ⟨v311, rfl, ho0, hb⟩; refine ⟨_, rfl, ?_⟩; have n0_ := Aside0.mk (Kd.R_elder' (by (with_reducible repeat (first | apply Kd.R_alloc | apply Kd.R_drewN | apply Kd.R_drew)); exact HO_11.out) (Kd.R_base ho0) hb); have n1_ := Aside0.mk (Kd.R_lower (Kd.R_new' ho0 (Kd.R_lt (by (with_reducible repeat (first | apply Kd.R_alloc | apply Kd.R_drewN | apply Kd.R_drew)); exact HO_11.out))) (below_size (by repeat (first | (with_reducible first | exact HB.out | apply below_alloc | apply pw_below_drewN | apply below_drew1 | refine below_set ?_ GE278.out) | exact HB.out)))); have n2_ := Aside0.mk (blk_below (g := gb278) (o := .cells #[.int .i64 a1_0, .int .i64 a1_1, .int .i64 a1_2] 26 (0, 0)) (by (with_reducible repeat (first | refine blk_drewN ?_ _ | refine blk_drew ?_ | refine blk_alloc ?_ _)); exact BK278.out) hb); have n3_ := Aside0.mk (below_step (by repeat (first | (with_reducible first | exact HB.out | apply below_alloc | apply pw_below_drewN | apply below_drew1 | refine below_set ?_ GE278.out) | exact HB.out)) hb); clear HO_11; clear BK278; clear HB; have HO_11 := n0_; have HO312 := n1_; have BK278 := n2_; have HB := n3_; clear n0_ n1_ n2_ n3_; (try clear hb); (try clear hb2); (try clear hk); (try clear hi); (try clear ho0)))
                          go_roundg kj46
                          case measure => have := HJ2.out; have := HK2.out; have := HJ46.out; omega
                          case rel => exact ⟨(wrap64 (x7_2 + t310)), (wrap64 (x8_2 + 1)), (t309), (wrap64 (x15_2 + 1)), (by first | rfl | (simp; done) | (simp [*]; done)), (by first | rfl | (simp; done) | (simp [*]; done)), (by first | rfl | (simp; done) | (simp [*]; done)), H', ⟨by have := HJ2.out; have := HK2.out; have := HJ46.out; omega⟩, ⟨by (with_reducible repeat (first | apply Kd.R_alloc | apply Kd.R_drewN | apply Kd.R_drew)); exact Kd.R_mono HO312.out (fun _ hk => trivial)⟩, ⟨by (with_reducible repeat (first | refine blk_drewN ?_ _ | refine blk_drew ?_ | refine blk_alloc ?_ _)); exact BK278.out⟩, ⟨by repeat (first | (with_reducible first | exact HB.out | apply below_alloc | apply pw_below_drewN | apply below_drew1 | refine below_set ?_ GE278.out) | exact HB.out)⟩⟩
                      · replace c55 := Bool.eq_false_iff.mpr c55
                        subst c55
                        have H1 : (some (x11_2, x7_2, x8_2)) = some (r1, r2, r3) := by rw [if_neg (show ¬ (false = true) by decide)] at H; exact H
                        clear H
                        have H := H1
                        clear H1
                        simp only [Option.some.injEq, Prod.mk.injEq] at H
                        obtain ⟨rfl, rfl, rfl⟩ := H
                        go_wp2
                        go_ret3
                        exact ⟨_, by first | rfl | (simp [errW_none, errW_some] <;> rfl) | (simp [*, errW_none, errW_some] <;> rfl), by (with_reducible repeat (first | apply Kd.R_alloc | apply Kd.R_drewN | apply Kd.R_drew)); exact HO_11.out, by repeat (first | (with_reducible first | exact HB.out | apply below_alloc | apply pw_below_drewN | apply below_drew1 | refine below_set ?_ GE278.out) | exact HB.out)⟩
          · rw [if_neg c18] at H
            exact absurd H (by simp)
end Go.Proofs.YtpldcikmlpegpaaDoor.PB
end
section
namespace Go.Proofs.YtpldcikmlpegpaaDoor.PB
open Go.RowKit Go.Proofs.YtpldcikmlpegpaaDoor.Col Go.Proofs.YtpldcikmlpegpaaDoorW.PrintWords Go.Proofs.YtpldcikmlpegpaaDoorW.PrintLast Go.Proofs.YtpldcikmlpegpaaDoorW.PrintMore
attribute [local go_sem] max2_int min2_int max_two min_two
def snowlineref02_Drift.j0 : Nat → Int → Bool → List (S48) → List (S48) → Option ((List (S48)) × (List (S48)) × Int)
  | 0, _, _, _, _ => none
  | k + 1, x2, x24, x454000, x455000 => if x24 = true then (some (([] : List (S48)), ([] : List (S48)), 20)) else ((snowlineref02_within.f x2 0 65536).bind fun t459 => (if t459 = true then ((snowlineref02_Do.f k x454000 6 x2 0).bind fun bt460 => ((snowlineref02_Do.f k x455000 1 bt460.2.2 0).bind fun bt465 => ((snowlineref02_Check.f k bt460.1).bind fun t472 => (if t472 = 0 then ((snowlineref02_Check.f k bt465.1).bind fun t473 => (if t473 = 0 then (some (bt460.1, bt465.1, 0)) else (some (([] : List (S48)), ([] : List (S48)), 2)))) else (some (([] : List (S48)), ([] : List (S48)), 2)))))) else (some (([] : List (S48)), ([] : List (S48)), 1))))
def snowlineref02_Drift.f (k : Nat) (l0_0 : List (S48)) (l1_0 : List (S48)) (a2 : Int) : Option ((List (S48)) × (List (S48)) × Int) := (snowlineref02_Check.f k l0_0).bind fun t457 => (if t457 = 0 then ((snowlineref02_Check.f k l1_0).bind fun t458 => (snowlineref02_Drift.j0 k a2 (t458 != 0) l0_0 l1_0)) else (snowlineref02_Drift.j0 k a2 true l0_0 l1_0))
set_option maxRecDepth 100000 in
set_option maxHeartbeats 4000000 in
theorem snowlineref02_Drift.calls (k : Nat) (A0 : Option Addr) (c0 : Nat) (l0 : List (S48)) (A1 : Option Addr) (c1 : Nat) (l1 : List (S48)) (a2 : Int) (r1 r2 : List (S48)) (r3 : Int) (w : World)
    (hr0 : Kd.C k48 w A0 l0.length l0) (hc0 : l0.length ≤ c0) (hr1 : Kd.C k48 w A1 l1.length l1) (hc1 : l1.length ≤ c1) (h : snowlineref02_Drift.f k l0 l1 a2 = some (r1, r2, r3)) :
    Calls Tryd.prog 32 #[.agg #[.slice A0 l0.length c0], .agg #[.slice A1 l1.length c1], .int .i64 a2] w fun e w' => ∃ v0_ v1_ : Value, e = .returned (.tuple #[.agg #[v0_], .agg #[v1_], .int .i64 r3]) ∧
      Kd.R k48 48 w' w.heap.size (fun _ => True) v0_ r1 ∧ Kd.R k48 48 w' w.heap.size (fun _ => True) v1_ r2 ∧ Below w.heap.size w w' := by
  have hu24 := Tryd.underlying24
  have hu26 := Tryd.underlying26
  have HR := Aside0.mk hr0
  have HC := Aside0.mk hc0
  have HRq := Aside0.mk hr1
  have HCq := Aside0.mk hc1
  clear hr0 hc0 hr1 hc1
  unfold snowlineref02_Drift.f at h
  replace h := Option.bind_eq_some_iff.mp h
  obtain ⟨e1, E1, h⟩ := h
  have HE1 := Aside0.mk E1
  have HH := Aside0.mk h
  clear E1 h
  go_enter Tryd.func32, Tryd.ntmps32
  go_upto_region 1 with (fail)
  obtain ⟨B, hB⟩ : ∃ B, w.heap.size = B := ⟨_, rfl⟩
  obtain ⟨V1, hV1⟩ : ∃ W1, w.alloc (.cells #[.slice A0 l0.length c0] 24 (0, 0)) = W1 := ⟨_, rfl⟩
  obtain ⟨V2, hV2⟩ : ∃ W1, V1.alloc (.cells #[.slice A1 l1.length c1] 24 (0, 0)) = W1 := ⟨_, rfl⟩
  obtain ⟨V3, hV3⟩ : ∃ W1, V2.alloc (.cells #[.slice none 0 0] 24 (0, 0)) = W1 := ⟨_, rfl⟩
  obtain ⟨W1, hW1⟩ : ∃ W1, V3.alloc (.cells #[.slice none 0 0] 24 (0, 0)) = W1 := ⟨_, rfl⟩
  have s1 : V1.heap.size = B + 1 := by rw [← hV1, ← hB]; simp
  have s2 : V2.heap.size = B + 2 := by rw [← hV2]; simp [s1]
  have s3 : V3.heap.size = B + 3 := by rw [← hV3]; simp [s2]
  have s4 : W1.heap.size = B + 4 := by rw [← hW1]; simp [s3]
  have b1 : Below B w V1 := by rw [← hV1, ← hB]; exact (Below.refl _ _).alloc (Nat.le_refl _) _
  have b2 : Below B w V2 := by rw [← hV2]; exact b1.alloc (by omega) _
  have b3 : Below B w V3 := by rw [← hV3]; exact b2.alloc (by omega) _
  have b4 : Below B w W1 := by rw [← hW1]; exact b3.alloc (by omega) _
  have p0 : W1.heap[B]? = some (.cells #[.slice A0 l0.length c0] 24 (0, 0)) := by rw [← hW1]; refine blk_alloc ?_ _; rw [← hV3]; refine blk_alloc ?_ _; rw [← hV2]; refine blk_alloc ?_ _; rw [← hV1, ← hB]; exact blk_new _ _
  have p1 : W1.heap[B + 1]? = some (.cells #[.slice A1 l1.length c1] 24 (0, 0)) := by rw [← hW1]; refine blk_alloc ?_ _; rw [← hV3]; refine blk_alloc ?_ _; rw [← hV2, ← s1]; exact blk_new _ _
  have p2 : W1.heap[B + 1 + 1]? = some (.cells #[.slice none 0 0] 24 (0, 0)) := by rw [← hW1]; refine blk_alloc ?_ _; rw [← hV3, show B + 1 + 1 = V2.heap.size from s2.symm]; exact blk_new _ _
  have p3 : W1.heap[B + 1 + 1 + 1]? = some (.cells #[.slice none 0 0] 24 (0, 0)) := by rw [← hW1, show B + 1 + 1 + 1 = V3.heap.size from s3.symm]; exact blk_new _ _
  rw [hV1, hV2, hV3, hW1, hB]
  have HR0 : Aside0 (Kd.C k48 W1 A0 l0.length l0) := ⟨Kd.C_below HR.out (by rw [hB]; exact b4)⟩
  have HR1 : Aside0 (Kd.C k48 W1 A1 l1.length l1) := ⟨Kd.C_below HRq.out (by rw [hB]; exact b4)⟩
  have K : Aside0 (∀ wX : World, Below W1.heap.size W1 wX → wX.heap[B]? = some (.cells #[.slice A0 l0.length c0] 24 (0, 0)) ∧ wX.heap[B + 1]? = some (.cells #[.slice A1 l1.length c1] 24 (0, 0)) ∧ wX.heap[B + 1 + 1]? = some (.cells #[.slice none 0 0] 24 (0, 0)) ∧ wX.heap[B + 1 + 1 + 1]? = some (.cells #[.slice none 0 0] 24 (0, 0)) ∧ Kd.C k48 wX A0 l0.length l0 ∧ Kd.C k48 wX A1 l1.length l1) :=
    ⟨fun wX hb => ⟨blk_below p0 hb, blk_below p1 hb, blk_below p2 hb, blk_below p3 hb, Kd.C_below HR0.out hb, Kd.C_below HR1.out hb⟩⟩
  have HS3 := Aside0.mk s4
  have HBq := Aside0.mk hB
  have HB4 := Aside0.mk b4
  have F : Aside0 (∀ (wX : World) (v v' : Value), Below W1.heap.size W1 wX → Below w.heap.size w ((wX.setCell ⟨B + 1 + 1, 0, none⟩ v).setCell ⟨B + 1 + 1 + 1, 0, none⟩ v')) :=
    ⟨fun wX v v' hb => by rw [HBq.out]; exact ((HB4.out.trans (hb.mono (by rw [HS3.out]; omega))).setCell (p := ⟨B + 1 + 1, 0, none⟩) (by show B ≤ B + 1 + 1; omega) v).setCell (p := ⟨B + 1 + 1 + 1, 0, none⟩) (by show B ≤ B + 1 + 1 + 1; omega) v'⟩
  have RN : Aside0 (∀ (wX : World) (v v' : Value) (xs xs' : List S48), Below W1.heap.size W1 wX → ((Kd.R k48 48 wX W1.heap.size (fun _ => True) v xs) → Kd.R k48 48 ((wX.setCell ⟨B + 1 + 1, 0, none⟩ v).setCell ⟨B + 1 + 1 + 1, 0, none⟩ v') w.heap.size (fun _ => True) v xs) ∧ ((Kd.R k48 48 wX W1.heap.size (fun _ => True) v' xs') → Kd.R k48 48 ((wX.setCell ⟨B + 1 + 1, 0, none⟩ v).setCell ⟨B + 1 + 1 + 1, 0, none⟩ v') w.heap.size (fun _ => True) v' xs')) :=
    ⟨fun wX v v' xs xs' hb => by
      have key : ∀ {u : Value} {ys : List S48}, Kd.R k48 48 wX W1.heap.size (fun _ => True) u ys → Kd.R k48 48 ((wX.setCell ⟨B + 1 + 1, 0, none⟩ v).setCell ⟨B + 1 + 1 + 1, 0, none⟩ v') w.heap.size (fun _ => True) u ys := fun h => by
        have h1 := Kd.R_mono (Kd.R_bound h) (ok' := fun k => W1.heap.size ≤ k) (fun _ h => h.2.1)
        have h2 := Kd.R_far (p := ⟨B + 1 + 1, 0, none⟩) h1 (fun k hk => by dsimp only; have := HS3.out; omega) v
        have h3 := Kd.R_far (p := ⟨B + 1 + 1 + 1, 0, none⟩) h2 (fun k hk => by dsimp only; have := HS3.out; omega) v'
        exact Kd.R_lower (Kd.R_mono h3 (fun _ _ => trivial)) (by have := HS3.out; have := HBq.out; omega)
      exact ⟨key, key⟩⟩
  have FIN : Aside0 (∀ (wX : World) (v v' : Value), Below W1.heap.size W1 wX → ((wX.setCell ⟨B + 1 + 1, 0, none⟩ v).setCell ⟨B + 1 + 1 + 1, 0, none⟩ v').heap[B + 1 + 1]? = some (.cells #[v] 24 (0, 0)) ∧ ((wX.setCell ⟨B + 1 + 1, 0, none⟩ v).setCell ⟨B + 1 + 1 + 1, 0, none⟩ v').heap[B + 1 + 1 + 1]? = some (.cells #[v'] 24 (0, 0))) :=
    ⟨fun wX v v' hb => by
      obtain ⟨_, _, k2, k3, _, _⟩ := K.out _ hb
      exact ⟨blk_far (blk_put (cs := #[.slice none 0 0]) k2 0 _ rfl) (by dsimp only; omega) _, blk_put (cs := #[.slice none 0 0]) (blk_far k3 (by dsimp only; omega) _) 0 _ rfl⟩⟩
  have CX : Aside0 (∀ wX : World, Below W1.heap.size W1 wX → (wX.cell? ⟨B, 0, none⟩ = some (.slice A0 l0.length c0) ∧ wX.cell? ⟨B + 1, 0, none⟩ = some (.slice A1 l1.length c1)) ∧ (wX.cell? ⟨B + 1 + 1, 0, none⟩ = some (.slice none 0 0) ∧ wX.frozen? ⟨B + 1 + 1, 0, none⟩ = false ∧ wX.cell? ⟨B + 1 + 1 + 1, 0, none⟩ = some (.slice none 0 0) ∧ wX.frozen? ⟨B + 1 + 1 + 1, 0, none⟩ = false)) :=
    ⟨fun wX hb => by
      obtain ⟨k0, k1, k2, k3, _, _⟩ := K.out _ hb
      exact ⟨⟨(blk_cell k0 0).trans rfl, (blk_cell k1 0).trans rfl⟩, (blk_cell k2 0).trans rfl, blk_frozen k2 0, (blk_cell k3 0).trans rfl, blk_frozen k3 0⟩⟩
  clear hV1 hV2 hV3 hW1 s1 s2 s3 s4 b1 b2 b3 b4 p0 p1 p2 p3 hB
  obtain ⟨q0, q1⟩ := (CX.out _ (Below.refl _ _)).1
  go_wp2_with (first | fail)
  go_at_call 45
  refine (snowlineref02_Check.calls k A0 c0 l0 e1 _ HR0.out HC.out HE1.out).mono ?_
  rintro e w7 ⟨rfl, hb⟩
  have HB7 := Aside0.mk hb
  clear hb q0 q1
  by_cases h1 : e1 = 0
  case neg =>
    have z0 : (e1 != 0) = true := by simp [h1]
    have h2 := HH.out
    rw [if_neg h1] at h2
    obtain ⟨k', rfl⟩ : ∃ k', k = k' + 1 := by cases k with | zero => simp [snowlineref02_Drift.j0] at h2 | succ k' => exact ⟨k', rfl⟩
    simp only [snowlineref02_Drift.j0, if_true, Option.some.injEq, Prod.mk.injEq] at h2
    obtain ⟨rfl, rfl, rfl⟩ := h2
    clear h1
    obtain ⟨c2, f2, c3', f3⟩ := (CX.out _ HB7.out).2
    go_wp2_with (first | fail)
    obtain ⟨g2, g3⟩ := FIN.out w7 (.slice none 0 0) (.slice none 0 0) HB7.out
    refine bodyPost_ret (results_cct rfl _ _ (B + 1 + 1) (B + 1 + 1 + 1) 24 24 #[.slice none 0 0] #[.slice none 0 0] (0, 0) (0, 0) _ _ rfl g2 Tryd.underlying24 rfl (by kernel_rfl) rfl g3 Tryd.underlying24 rfl (by kernel_rfl)) rfl ?_
    exact ⟨_, _, rfl, Kd.R_nil _ _ _ _ _, Kd.R_nil _ _ _ _ _, F.out _ _ _ HB7.out⟩
  have z0 : (e1 != 0) = false := by simp [h1]
  have h2 := HH.out
  rw [if_pos h1] at h2
  replace h2 := Option.bind_eq_some_iff.mp h2
  obtain ⟨e2, E2, h2⟩ := h2
  have HE2 := Aside0.mk E2
  obtain ⟨k', rfl⟩ : ∃ k', k = k' + 1 := by cases k with | zero => simp [snowlineref02_Drift.j0] at h2 | succ k' => exact ⟨k', rfl⟩
  have HH2 := Aside0.mk h2
  clear HH h1 E2 h2
  obtain ⟨q0, q1⟩ := (CX.out _ HB7.out).1
  go_wp2_with (first | fail)
  go_at_call 45
  refine (snowlineref02_Check.calls (k' + 1) A1 c1 l1 e2 _ (K.out _ HB7.out).2.2.2.2.2 HCq.out HE2.out).mono ?_
  rintro e w8 ⟨rfl, hb⟩
  have HB8 := Aside0.mk (below_step HB7.out hb)
  clear hb q0 q1 z0
  by_cases h2 : e2 = 0
  case neg =>
    have z0 : (e2 != 0) = true := by simp [h2]
    have h3 := HH2.out
    rw [z0] at h3
    simp only [snowlineref02_Drift.j0, if_true, Option.some.injEq, Prod.mk.injEq] at h3
    obtain ⟨rfl, rfl, rfl⟩ := h3
    clear h2
    obtain ⟨c2, f2, c3', f3⟩ := (CX.out _ HB8.out).2
    go_wp2_with (first | fail)
    obtain ⟨g2, g3⟩ := FIN.out w8 (.slice none 0 0) (.slice none 0 0) HB8.out
    refine bodyPost_ret (results_cct rfl _ _ (B + 1 + 1) (B + 1 + 1 + 1) 24 24 #[.slice none 0 0] #[.slice none 0 0] (0, 0) (0, 0) _ _ rfl g2 Tryd.underlying24 rfl (by kernel_rfl) rfl g3 Tryd.underlying24 rfl (by kernel_rfl)) rfl ?_
    exact ⟨_, _, rfl, Kd.R_nil _ _ _ _ _, Kd.R_nil _ _ _ _ _, F.out _ _ _ HB8.out⟩
  have z0 : (e2 != 0) = false := by simp [h2]
  have h3 := HH2.out
  rw [z0] at h3
  simp only [snowlineref02_Drift.j0] at h3
  rw [if_neg (by simp)] at h3
  replace h3 := Option.bind_eq_some_iff.mp h3
  obtain ⟨ok, E3, h3⟩ := h3
  have HE3 := Aside0.mk E3
  have HH3 := Aside0.mk h3
  clear h2 HH2 E3 h3
  go_wp2_with (first | fail)
  go_at_call 71
  refine (snowlineref02_within.calls a2 0 65536 ok _ HE3.out).mono ?_
  rintro e w9 ⟨rfl, ⟨nd, rfl⟩⟩
  have HB9 := Aside0.mk (pw_below_drewN HB8.out nd)
  generalize w8.drewN nd = w9 at HB9 ⊢
  clear z0
  cases ok with
  | false =>
    have h4 := HH3.out
    simp only [Bool.false_eq_true, if_false, Option.some.injEq, Prod.mk.injEq] at h4
    obtain ⟨rfl, rfl, rfl⟩ := h4
    obtain ⟨c2, f2, c3', f3⟩ := (CX.out _ HB9.out).2
    go_wp2_with (first | fail)
    obtain ⟨g2, g3⟩ := FIN.out w9 (.slice none 0 0) (.slice none 0 0) HB9.out
    refine bodyPost_ret (results_cct rfl _ _ (B + 1 + 1) (B + 1 + 1 + 1) 24 24 #[.slice none 0 0] #[.slice none 0 0] (0, 0) (0, 0) _ _ rfl g2 Tryd.underlying24 rfl (by kernel_rfl) rfl g3 Tryd.underlying24 rfl (by kernel_rfl)) rfl ?_
    exact ⟨_, _, rfl, Kd.R_nil _ _ _ _ _, Kd.R_nil _ _ _ _ _, F.out _ _ _ HB9.out⟩
  | true =>
    have h4 := HH3.out
    simp only [if_true] at h4
    replace h4 := Option.bind_eq_some_iff.mp h4
    obtain ⟨⟨x, xr, xt⟩, E4, h4⟩ := h4
    replace h4 := Option.bind_eq_some_iff.mp h4
    obtain ⟨⟨y, yr, yt⟩, E5, h4⟩ := h4
    replace h4 := Option.bind_eq_some_iff.mp h4
    obtain ⟨e6, E6, h4⟩ := h4
    have HE4 := Aside0.mk E4
    have HE5 := Aside0.mk E5
    have HE6 := Aside0.mk E6
    have HH4 := Aside0.mk h4
    clear HH3 E4 E5 E6 h4
    have q0 := (CX.out _ HB9.out).1.1
    go_wp2_with (first | fail)
    go_at_call 62
    refine (snowlineref02_Do.calls k' A0 c0 l0 6 a2 0 x xr xt _ (K.out _ HB9.out).2.2.2.2.1 HC.out HE4.out).mono ?_
    rintro e w10 ⟨v10, rfl, hR, hb⟩
    obtain ⟨A3, c3, rfl⟩ := Kd.R_slice hR
    have HB10 := Aside0.mk (below_step HB9.out hb)
    have HX10 := Aside0.mk (Kd.R_lower hR HB9.out.size)
    clear hR hb q0
    have q1 := (CX.out _ HB10.out).1.2
    go_wp2_with (first | fail)
    go_at_call 62
    refine (snowlineref02_Do.calls k' A1 c1 l1 1 xt 0 y yr yt _ (K.out _ HB10.out).2.2.2.2.2 HCq.out HE5.out).mono ?_
    rintro e w11 ⟨v11, rfl, hR, hb⟩
    obtain ⟨A4, c4, rfl⟩ := Kd.R_slice hR
    have HB11 := Aside0.mk (below_step HB10.out hb)
    have HX11 := Aside0.mk (Kd.R_below HX10.out hb)
    have HY11 := Aside0.mk (Kd.R_lower hR HB10.out.size)
    clear hR hb q1 HX10
    go_upto_region 9 with (fail)
    obtain ⟨q, hq⟩ : ∃ q, w11.heap.size = q := ⟨_, rfl⟩
    obtain ⟨W12, hW12⟩ : ∃ W12, (w11.alloc (.cells #[.slice A3 x.length c3] 24 (0, 0))).alloc (.cells #[.slice A4 y.length c4] 24 (0, 0)) = W12 := ⟨_, rfl⟩
    have K12 := two_rows 24 (Kd.R_reads' HX11.out).2.2 (Kd.R_reads' HY11.out).2.2 hq hW12
    have HB12 : Aside0 (Below W1.heap.size W1 W12) := ⟨by rw [← hW12]; exact below_alloc (below_alloc HB11.out _) _⟩
    have HX12 : Aside0 (Kd.R k48 48 W12 W1.heap.size (fun _ => True) (.slice A3 x.length c3) x) := ⟨by rw [← hW12]; exact Kd.R_alloc (Kd.R_alloc HX11.out _) _⟩
    have HY12 : Aside0 (Kd.R k48 48 W12 W1.heap.size (fun _ => True) (.slice A4 y.length c4) y) := ⟨by rw [← hW12]; exact Kd.R_alloc (Kd.R_alloc HY11.out _) _⟩
    have HNQ : Aside0 (B + 4 ≤ q) := ⟨by have := HB11.out.size; have := HS3.out; omega⟩
    rw [hW12, hq]
    clear hW12 hq HB11 HX11 HY11
    obtain ⟨q3, q4⟩ := (K12.out _ (Below.refl _ _)).1
    go_wp2_with (first | fail)
    go_at_call 45
    refine (snowlineref02_Check.calls k' A3 c3 x e6 _ (Kd.R_reads' HX12.out).2.2 (Kd.R_reads' HX12.out).2.1 HE6.out).mono ?_
    rintro e w13 ⟨rfl, hb⟩
    have H13 := Aside0.mk hb
    have HB13 := Aside0.mk (below_step HB12.out hb)
    clear hb q3 q4
    by_cases h6 : e6 = 0
    case neg =>
      have z0 : (e6 != 0) = true := by simp [h6]
      have h7 := HH4.out
      rw [if_neg h6] at h7
      simp only [Option.some.injEq, Prod.mk.injEq] at h7
      obtain ⟨rfl, rfl, rfl⟩ := h7
      clear h6
      obtain ⟨c2, f2, c3', f3⟩ := (CX.out _ HB13.out).2
      go_wp2_with (first | fail)
      obtain ⟨g2, g3⟩ := FIN.out w13 (.slice none 0 0) (.slice none 0 0) HB13.out
      refine bodyPost_ret (results_cct rfl _ _ (B + 1 + 1) (B + 1 + 1 + 1) 24 24 #[.slice none 0 0] #[.slice none 0 0] (0, 0) (0, 0) _ _ rfl g2 Tryd.underlying24 rfl (by kernel_rfl) rfl g3 Tryd.underlying24 rfl (by kernel_rfl)) rfl ?_
      exact ⟨_, _, rfl, Kd.R_nil _ _ _ _ _, Kd.R_nil _ _ _ _ _, F.out _ _ _ HB13.out⟩
    have z0 : (e6 != 0) = false := by simp [h6]
    have h7 := HH4.out
    rw [if_pos h6] at h7
    replace h7 := Option.bind_eq_some_iff.mp h7
    obtain ⟨e7, E7, h7⟩ := h7
    have HE7 := Aside0.mk E7
    have HH7 := Aside0.mk h7
    clear HH4 E7 h7 h6
    obtain ⟨q3, q4⟩ := (K12.out _ H13.out).1
    go_wp2_with (first | fail)
    go_at_call 45
    refine (snowlineref02_Check.calls k' A4 c4 y e7 _ (K12.out _ H13.out).2.2 (Kd.R_reads' HY12.out).2.1 HE7.out).mono ?_
    rintro e w14 ⟨rfl, hb⟩
    have H14 := Aside0.mk (below_step H13.out hb)
    have HB14 := Aside0.mk (below_step HB13.out hb)
    clear hb q3 q4 z0
    by_cases h8 : e7 = 0
    case neg =>
      have z0 : (e7 != 0) = true := by simp [h8]
      have h9 := HH7.out
      rw [if_neg h8] at h9
      simp only [Option.some.injEq, Prod.mk.injEq] at h9
      obtain ⟨rfl, rfl, rfl⟩ := h9
      clear h8
      obtain ⟨c2, f2, c3', f3⟩ := (CX.out _ HB14.out).2
      go_wp2_with (first | fail)
      obtain ⟨g2, g3⟩ := FIN.out w14 (.slice none 0 0) (.slice none 0 0) HB14.out
      refine bodyPost_ret (results_cct rfl _ _ (B + 1 + 1) (B + 1 + 1 + 1) 24 24 #[.slice none 0 0] #[.slice none 0 0] (0, 0) (0, 0) _ _ rfl g2 Tryd.underlying24 rfl (by kernel_rfl) rfl g3 Tryd.underlying24 rfl (by kernel_rfl)) rfl ?_
      exact ⟨_, _, rfl, Kd.R_nil _ _ _ _ _, Kd.R_nil _ _ _ _ _, F.out _ _ _ HB14.out⟩
    have z0 : (e7 != 0) = false := by simp [h8]
    have h9 := HH7.out
    rw [if_pos h8] at h9
    simp only [Option.some.injEq, Prod.mk.injEq] at h9
    obtain ⟨rfl, rfl, rfl⟩ := h9
    obtain ⟨c2, f2, c3', f3⟩ := (CX.out _ HB14.out).2
    obtain ⟨q3, q4⟩ := (K12.out _ H14.out).1
    have n1 : q ≠ B + 1 + 1 := by have := HNQ.out; omega
    have n2 : B + 1 + 1 ≠ q := n1.symm
    have n3 : q + 1 ≠ B + 1 + 1 := by have := HNQ.out; omega
    have n4 : B + 1 + 1 ≠ q + 1 := n3.symm
    have n5 : q ≠ B + 1 + 1 + 1 := by have := HNQ.out; omega
    have n6 : B + 1 + 1 + 1 ≠ q := n5.symm
    have n7 : q + 1 ≠ B + 1 + 1 + 1 := by have := HNQ.out; omega
    have n8 : B + 1 + 1 + 1 ≠ q + 1 := n7.symm
    clear h8
    go_upto_region 11 with (fail)
    go_region
    go_wp2
    obtain ⟨g2, g3⟩ := FIN.out w14 (.slice A3 x.length c3) (.slice A4 y.length c4) HB14.out
    refine bodyPost_ret (results_cct rfl _ _ (B + 1 + 1) (B + 1 + 1 + 1) 24 24 #[.slice A3 x.length c3] #[.slice A4 y.length c4] (0, 0) (0, 0) _ _ rfl (blk_drew g2) Tryd.underlying24 rfl (by kernel_rfl) rfl (blk_drew g3) Tryd.underlying24 rfl (by kernel_rfl)) rfl ?_
    obtain ⟨hA, hB'⟩ := RN.out w14 (.slice A3 x.length c3) (.slice A4 y.length c4) x y HB14.out
    exact ⟨_, _, rfl, Kd.R_drew (hA (Kd.R_below HX12.out H14.out)), Kd.R_drew (hB' (Kd.R_below HY12.out H14.out)), (F.out w14 _ _ HB14.out).drew⟩
end Go.Proofs.YtpldcikmlpegpaaDoor.PB
end
section
namespace Go.Proofs.YtpldcikmlpegpaaDoor.PB
open Go.RowKit Go.Proofs.YtpldcikmlpegpaaDoor.Col Go.Proofs.YtpldcikmlpegpaaDoorW.PrintWords Go.Proofs.YtpldcikmlpegpaaDoorW.PrintLast Go.Proofs.YtpldcikmlpegpaaDoorW.PrintMore
attribute [local go_sem] max2_int min2_int max_two min_two
set_option maxRecDepth 100000 in
set_option maxHeartbeats 4000000 in
theorem packOrders_walk (A0 : Option Addr) (c0 : Nat) (l0 : List (S48)) (A1 : Option Addr) (c1 : Nat) (l1 : List (S48)) (n much : Int) (fw : Bool) (k : Nat) (hfw : snowlinelaw02_few.f k [(⟨l0⟩ : S24), (⟨l1⟩ : S24)] = some fw)
    (lb : Bool) (le : Int) (hl : pack_Less.f k l0 l1 = some (lb, le)) (hl' : snowlineref02_Less.f k l0 l1 = some (lb, le)) (x : List S48) (je : Int) (hj : pack_Joined.f l0 n = some (x, je)) (hj' : snowlineref02_Joined.f k l0 n = some (x, je))
    (y z : List S48) (de : Int) (hd : pack_Drift.f l0 l1 much = some (y, z, de)) (hd' : snowlineref02_Drift.f k l0 l1 much = some (y, z, de)) (hx : snowlineref02_Same.f k x x = some true) (hy : snowlineref02_Same.f k y y = some true) (hz : snowlineref02_Same.f k z z = some true)
    (w : World) (hr0 : Kd.C k48 w A0 l0.length l0) (hc0 : l0.length ≤ c0) (hr1 : Kd.C k48 w A1 l1.length l1) (hc1 : l1.length ≤ c1) (hG : Glob w) :
    Calls Tryd.prog 7 #[.agg #[.slice A0 l0.length c0], .agg #[.slice A1 l1.length c1], .int .i64 n, .int .i64 much] w fun e w' => e = .returned (.bool true) ∧ Below w.heap.size w w' := by
  have hu24 := Tryd.underlying24
  have hu26 := Tryd.underlying26
  have HC0 := Aside0.mk hc0
  have HC1 := Aside0.mk hc1
  have HR0 := Aside0.mk hr0
  have HR1 := Aside0.mk hr1
  have HG := Aside0.mk hG
  replace hfw := Aside0.mk hfw
  replace hl := Aside0.mk hl
  replace hl' := Aside0.mk hl'
  replace hj := Aside0.mk hj
  replace hj' := Aside0.mk hj'
  replace hd := Aside0.mk hd
  replace hd' := Aside0.mk hd'
  replace hx := Aside0.mk hx
  replace hy := Aside0.mk hy
  replace hz := Aside0.mk hz
  clear hc0 hc1 hr0 hr1 hG
  go_enter Tryd.func7, Tryd.ntmps7
  go_upto_region 1 with (fail)
  obtain ⟨B, hB⟩ : ∃ B, w.heap.size = B := ⟨_, rfl⟩
  obtain ⟨V1, hV1⟩ : ∃ W1, w.alloc (.cells #[.slice A0 l0.length c0] 24 (0, 0)) = W1 := ⟨_, rfl⟩
  obtain ⟨W1, hW1⟩ : ∃ W1, V1.alloc (.cells #[.slice A1 l1.length c1] 24 (0, 0)) = W1 := ⟨_, rfl⟩
  have s1 : V1.heap.size = B + 1 := by rw [← hV1, ← hB]; simp
  have b2 : Below w.heap.size w W1 := by rw [← hW1, ← hV1]; exact below_alloc (below_alloc (Below.refl _ _) _) _
  have p0 : W1.heap[B]? = some (.cells #[.slice A0 l0.length c0] 24 (0, 0)) := by rw [← hW1]; refine blk_alloc ?_ _; rw [← hV1, ← hB]; exact blk_new _ _
  have p1 : W1.heap[B + 1]? = some (.cells #[.slice A1 l1.length c1] 24 (0, 0)) := by rw [← hW1, ← s1]; exact blk_new _ _
  rw [hV1, hW1, hB]
  have K : Aside0 (∀ wX : World, Below W1.heap.size W1 wX → (wX.cell? ⟨B, 0, none⟩ = some (.slice A0 l0.length c0) ∧ wX.cell? ⟨B + 1, 0, none⟩ = some (.slice A1 l1.length c1)) ∧ (Kd.C k48 wX A0 l0.length l0 ∧ Kd.C k48 wX A1 l1.length l1) ∧ Glob wX ∧ Below w.heap.size w wX) :=
    ⟨fun wX hb => ⟨⟨(blk_cell (blk_below p0 hb) 0).trans rfl, (blk_cell (blk_below p1 hb) 0).trans rfl⟩, ⟨Kd.C_below HR0.out (below_step b2 hb), Kd.C_below HR1.out (below_step b2 hb)⟩, HG.out.below (below_step b2 hb) (Nat.le_refl _), below_step b2 hb⟩⟩
  clear hV1 hW1 s1 b2 p0 p1 hB HR0 HR1 HG
  go_wp2_with (first | fail)
  go_at_call 18
  refine (snowlinelaw02_sane.calls 200 true _ (K.out _ (Below.refl _ _)).2.2.1 rfl).mono ?_
  rintro e w2 ⟨rfl, hb⟩
  have H2 := Aside0.mk hb
  clear hb
  obtain ⟨q0, q1⟩ := (K.out _ H2.out).1
  go_wp2_with (first | fail)
  go_at_call 19
  refine (snowlinelaw02_few.calls k _ 2 [⟨l0⟩, ⟨l1⟩] fw _ (packs_two (K.out _ H2.out).2.1.1 HC0.out (K.out _ H2.out).2.1.2 HC1.out) (Nat.le_refl _) hfw.out).mono ?_
  rintro e w3 ⟨rfl, ⟨nd, rfl⟩⟩
  have H3 := Aside0.mk (pw_below_drewN (below_alloc H2.out (.cells #[.slice A0 l0.length c0, .slice A1 l1.length c1] 24 (0, 0))) nd)
  clear q0 q1
  generalize (w2.alloc (.cells #[.slice A0 l0.length c0, .slice A1 l1.length c1] 24 (0, 0))).drewN nd = w3 at H3 ⊢
  cases fw with
  | false =>
    go_wp2_with (first | fail)
    go_ret
    exact ⟨rfl, (K.out _ H3.out).2.2.2⟩
  | true =>
    go_upto_region 5 with (fail)
    all_goals try (go_ret; exact ⟨rfl, (K.out _ H3.out).2.2.2⟩)
    all_goals
      obtain ⟨q0, q1⟩ := (K.out _ H3.out).1
      go_wp2_with (first | fail)
      go_at_call 27
      refine (pack_Less.calls k A0 c0 l0 A1 c1 l1 lb le _ (K.out _ H3.out).2.1.1 HC0.out (K.out _ H3.out).2.1.2 HC1.out hl.out).mono ?_
      rintro e w4 ⟨rfl, hb⟩
      have H4 := Aside0.mk (below_step H3.out hb)
      clear hb q0 q1
      obtain ⟨q0, q1⟩ := (K.out _ H4.out).1
      go_wp2_with (first | fail)
      go_at_call 28
      refine (snowlineref02_Less.calls k A0 c0 l0 A1 c1 l1 lb le _ (K.out _ H4.out).2.1.1 HC0.out (K.out _ H4.out).2.1.2 HC1.out hl'.out).mono ?_
      rintro e w5 ⟨rfl, hb⟩
      have H5 := Aside0.mk (below_step H4.out hb)
      clear hb q0 q1
      obtain ⟨q0, q1⟩ := (K.out _ H5.out).1
      go_wp2_with (first | fail)
      go_at_call 29
      refine (pack_Joined.calls A0 c0 l0 n x je _ (K.out _ H5.out).2.1.1 HC0.out hj.out).mono ?_
      rintro e w6 ⟨v6, rfl, hR, hb⟩
      obtain ⟨A6, c6, rfl⟩ := Kd.R_slice hR
      have H6 := Aside0.mk (below_step H5.out hb)
      have HX6 := Aside0.mk (Kd.R_reads' hR).2
      clear hb hR q0 q1
      go_upto_region 8 with (fail)
      obtain ⟨W6, hW6⟩ : ∃ W, w6.alloc (.cells #[.slice A6 x.length c6] 24 (0, 0)) = W := ⟨_, rfl⟩
      obtain ⟨p6, hp6⟩ : ∃ p, w6.heap.size = p := ⟨_, rfl⟩
      have K6 := one_row 24 HX6.out.2 hp6 hW6
      have H6' : Aside0 (Below W1.heap.size W1 W6) := ⟨by rw [← hW6]; exact below_alloc H6.out _⟩
      rw [hW6, hp6]
      clear hW6 hp6 H6
      obtain ⟨q0, q1⟩ := (K.out _ H6'.out).1
      go_wp2_with (first | fail)
      go_at_call 30
      refine (snowlineref02_Joined.calls k A0 c0 l0 n x je _ (K.out _ H6'.out).2.1.1 HC0.out hj'.out).mono ?_
      rintro e w7 ⟨v7, rfl, hR, hb⟩
      obtain ⟨A7, c7, rfl⟩ := Kd.R_slice hR
      have H67 := Aside0.mk hb
      have HX7 := Aside0.mk (Kd.R_reads' hR).2
      clear hb hR q0 q1
      go_upto_region 9 with (fail)
      obtain ⟨W7, hW7⟩ : ∃ W, w7.alloc (.cells #[.slice A7 x.length c7] 24 (0, 0)) = W := ⟨_, rfl⟩
      obtain ⟨p7, hp7⟩ : ∃ p, w7.heap.size = p := ⟨_, rfl⟩
      have K7 := one_row 24 HX7.out.2 hp7 hW7
      have H67' : Aside0 (Below W6.heap.size W6 W7) := ⟨by rw [← hW7]; exact below_alloc H67.out _⟩
      have H7' : Aside0 (Below W1.heap.size W1 W7) := ⟨below_step H6'.out H67'.out⟩
      rw [hW7, hp7]
      clear hW7 hp7 H67
      obtain ⟨q0, q1⟩ := (K.out _ H7'.out).1
      go_wp2_with (first | fail)
      go_at_call 31
      refine (pack_Drift.calls A0 c0 l0 A1 c1 l1 much y z de _ (K.out _ H7'.out).2.1.1 HC0.out (K.out _ H7'.out).2.1.2 HC1.out hd.out).mono ?_
      rintro e w8 ⟨v8, v8', rfl, hR, hR', hb⟩
      obtain ⟨A8, c8, rfl⟩ := Kd.R_slice hR
      obtain ⟨A9, c9, rfl⟩ := Kd.R_slice hR'
      have H78 := Aside0.mk hb
      have HX8 := Aside0.mk (Kd.R_reads' hR).2
      have HX9 := Aside0.mk (Kd.R_reads' hR').2
      clear hb hR hR' q0 q1
      go_upto_region 10 with (fail)
      obtain ⟨W8, hW8⟩ : ∃ W, (w8.alloc (.cells #[.slice A8 y.length c8] 24 (0, 0))).alloc (.cells #[.slice A9 z.length c9] 24 (0, 0)) = W := ⟨_, rfl⟩
      obtain ⟨p8, hp8⟩ : ∃ p, w8.heap.size = p := ⟨_, rfl⟩
      have K8 := two_rows 24 HX8.out.2 HX9.out.2 hp8 hW8
      have H78' : Aside0 (Below W7.heap.size W7 W8) := ⟨by rw [← hW8]; exact below_alloc (below_alloc H78.out _) _⟩
      have H8' : Aside0 (Below W1.heap.size W1 W8) := ⟨below_step H7'.out H78'.out⟩
      rw [hW8, hp8]
      clear hW8 hp8 H78
      obtain ⟨q0, q1⟩ := (K.out _ H8'.out).1
      go_wp2_with (first | fail)
      go_at_call 32
      refine (snowlineref02_Drift.calls k A0 c0 l0 A1 c1 l1 much y z de _ (K.out _ H8'.out).2.1.1 HC0.out (K.out _ H8'.out).2.1.2 HC1.out hd'.out).mono ?_
      rintro e w9 ⟨v9, v9', rfl, hR, hR', hb⟩
      obtain ⟨A10, c10, rfl⟩ := Kd.R_slice hR
      obtain ⟨A11, c11, rfl⟩ := Kd.R_slice hR'
      have H89 := Aside0.mk hb
      have HX10 := Aside0.mk (Kd.R_reads' hR).2
      have HX11 := Aside0.mk (Kd.R_reads' hR').2
      clear hb hR hR' q0 q1
      go_upto_region 11 with (fail)
      obtain ⟨W9, hW9⟩ : ∃ W, (w9.alloc (.cells #[.slice A10 y.length c10] 24 (0, 0))).alloc (.cells #[.slice A11 z.length c11] 24 (0, 0)) = W := ⟨_, rfl⟩
      obtain ⟨p9, hp9⟩ : ∃ p, w9.heap.size = p := ⟨_, rfl⟩
      have K9 := two_rows 24 HX10.out.2 HX11.out.2 hp9 hW9
      have H89' : Aside0 (Below W8.heap.size W8 W9) := ⟨by rw [← hW9]; exact below_alloc (below_alloc H89.out _) _⟩
      rw [hW9, hp9]
      clear hW9 hp9 H89
      -- from here on nothing more is laid
      have M : Aside0 (∀ wX : World, Below W9.heap.size W9 wX → (wX.cell? ⟨p6, 0, none⟩ = some (.slice A6 x.length c6) ∧ Kd.C k48 wX A6 x.length x) ∧ (wX.cell? ⟨p7, 0, none⟩ = some (.slice A7 x.length c7) ∧ Kd.C k48 wX A7 x.length x) ∧ ((wX.cell? ⟨p8, 0, none⟩ = some (.slice A8 y.length c8) ∧ wX.cell? ⟨p8 + 1, 0, none⟩ = some (.slice A9 z.length c9)) ∧ Kd.C k48 wX A8 y.length y ∧ Kd.C k48 wX A9 z.length z) ∧ ((wX.cell? ⟨p9, 0, none⟩ = some (.slice A10 y.length c10) ∧ wX.cell? ⟨p9 + 1, 0, none⟩ = some (.slice A11 z.length c11)) ∧ Kd.C k48 wX A10 y.length y ∧ Kd.C k48 wX A11 z.length z) ∧ Below w.heap.size w wX) :=
        ⟨fun wX hb => ⟨K6.out _ (below_step (below_step (below_step H67'.out H78'.out) H89'.out) hb), K7.out _ (below_step (below_step H78'.out H89'.out) hb), K8.out _ (below_step H89'.out hb), K9.out _ hb, (K.out _ (below_step (below_step H8'.out H89'.out) hb)).2.2.2⟩⟩
      have HF := Aside0.mk (Below.refl W9.heap.size W9)
      clear K K6 K7 K8 K9 H67' H78' H89' H6' H7' H8'
      have q6 := (M.out _ HF.out).1.1
      have q7 := (M.out _ HF.out).2.1.1
      go_wp2_with (first | fail)
      go_at_call 23
      refine (snowlineref02_Same.calls k A6 c6 x A7 c7 x true _ (M.out _ HF.out).1.2 HX6.out.1 (M.out _ HF.out).2.1.2 HX7.out.1 hx.out).mono ?_
      rintro e w10 ⟨rfl, hb⟩
      have H10 := Aside0.mk hb
      clear hb q6 q7
      have q8 := (M.out _ H10.out).2.2.1.1.1
      have q9 := (M.out _ H10.out).2.2.2.1.1.1
      go_wp2_with (first | fail)
      go_at_call 23
      refine (snowlineref02_Same.calls k A8 c8 y A10 c10 y true _ (M.out _ H10.out).2.2.1.2.1 HX8.out.1 (M.out _ H10.out).2.2.2.1.2.1 HX10.out.1 hy.out).mono ?_
      rintro e w11 ⟨rfl, hb⟩
      have H11 := Aside0.mk (below_step H10.out hb)
      clear hb q8 q9
      have q8 := (M.out _ H11.out).2.2.1.1.2
      have q9 := (M.out _ H11.out).2.2.2.1.1.2
      go_wp2_with (first | fail)
      go_at_call 23
      refine (snowlineref02_Same.calls k A9 c9 z A11 c11 z true _ (M.out _ H11.out).2.2.1.2.2 HX9.out.1 (M.out _ H11.out).2.2.2.1.2.2 HX11.out.1 hz.out).mono ?_
      rintro e w12 ⟨rfl, hb⟩
      have H12 := Aside0.mk (below_step H11.out hb)
      clear hb q8 q9
      go_wp2_with (first | fail)
      go_ret
      exact ⟨rfl, (M.out _ H12.out).2.2.2.2⟩
end Go.Proofs.YtpldcikmlpegpaaDoor.PB
end
section
namespace Go.Proofs.YtpldcikmlpegpaaDoor.Plain
open Go.RowKit Go.Proofs.YtpldcikmlpegpaaDoor.PB
abbrev Ly := S48
@[ext] theorem Ly.ext' {a b : Ly} (h0 : a.f0 = b.f0) (h1 : a.f1 = b.f1) (h2 : a.f2 = b.f2) : a = b := by
  cases a; cases b; simp_all
def Fit (l : Ly) : Prop := 0 ≤ l.f0 ∧ 0 ≤ l.f1 ∧ l.f1 ≤ l.f0 / 20 ∧ 0 ≤ l.f2
def Fits (ls : List Ly) : Prop := ∀ l ∈ ls, Fit l
theorem Fits.nil : Fits [] := by intro l h; cases h
theorem Fits.cons {l : Ly} {ls : List Ly} (h : Fit l) (hs : Fits ls) : Fits (l :: ls) := by
  intro x hx
  rcases List.mem_cons.mp hx with rfl | hx
  · exact h
  · exact hs x hx
theorem Fits.head {l : Ly} {ls : List Ly} (h : Fits (l :: ls)) : Fit l := h l List.mem_cons_self
theorem Fits.tail {l : Ly} {ls : List Ly} (h : Fits (l :: ls)) : Fits ls := fun x hx => h x (List.mem_cons_of_mem _ hx)
def water : List Ly → Int
  | [] => 0
  | l :: ls => l.f0 + l.f1 + water ls
def cold : List Ly → Int
  | [] => 0
  | l :: ls => l.f2 + cold ls
theorem water_nonneg {ls : List Ly} (h : Fits ls) : 0 ≤ water ls := by
  induction ls with
  | nil => exact Int.le_refl _
  | cons l ls ih =>
    have := ih h.tail
    obtain ⟨a, b, c, d⟩ := h.head
    simp only [water]
    omega
theorem cold_nonneg {ls : List Ly} (h : Fits ls) : 0 ≤ cold ls := by
  induction ls with
  | nil => exact Int.le_refl _
  | cons l ls ih =>
    have := ih h.tail
    obtain ⟨a, b, c, d⟩ := h.head
    simp only [cold]
    omega
def into (l : Ly) (m : Int) : Ly × Int :=
  let fr := min m l.f2
  let kept := min (m - fr) ((l.f0 + fr) / 20 - l.f1)
  (⟨l.f0 + fr, l.f1 + kept, l.f2 - fr⟩, m - fr - kept)
def flow : List Ly → Int → List Ly × Int
  | [], m => ([], m)
  | l :: ls, m => if 0 < m then ((into l m).1 :: (flow ls (into l m).2).1, (flow ls (into l m).2).2) else (l :: ls, m)
def flow1 : List Ly → List Ly × Int
  | [] => ([], 1)
  | l :: ls => if l.f2 = 0 ∧ l.f0 / 20 ≤ l.f1 then (l :: (flow1 ls).1, (flow1 ls).2)
      else if 0 < l.f2 then (⟨l.f0 + 1, l.f1, l.f2 - 1⟩ :: ls, 0) else (⟨l.f0, l.f1 + 1, l.f2⟩ :: ls, 0)
theorem flow_zero (ls : List Ly) : flow ls 0 = (ls, 0) := by
  cases ls <;> simp [flow]
theorem into_fit {l : Ly} {m : Int} (h : Fit l) (hm : 0 ≤ m) : Fit (into l m).1 ∧ 0 ≤ (into l m).2 := by
  obtain ⟨a, b, c, d⟩ := h
  simp only [into, Fit]
  omega
theorem into_water (l : Ly) (m : Int) : (into l m).1.f0 + (into l m).1.f1 + (into l m).2 = l.f0 + l.f1 + m := by
  simp only [into]; omega
theorem into_cold {l : Ly} {m : Int} (h : Fit l) (hm : 0 ≤ m) : (into l m).1.f2 ≤ l.f2 ∧ l.f0 ≤ (into l m).1.f0 := by
  obtain ⟨a, b, c, d⟩ := h
  simp only [into]
  omega
theorem flow_fit {ls : List Ly} : ∀ {m : Int}, Fits ls → 0 ≤ m → Fits (flow ls m).1 ∧ 0 ≤ (flow ls m).2 := by
  induction ls with
  | nil => intro m h hm; exact ⟨Fits.nil, hm⟩
  | cons l ls ih =>
    intro m h hm
    simp only [flow]
    split
    · obtain ⟨f, r⟩ := into_fit h.head hm
      obtain ⟨g, s⟩ := ih h.tail r
      exact ⟨Fits.cons f g, s⟩
    · exact ⟨h, hm⟩
theorem flow_water (ls : List Ly) : ∀ (m : Int), water (flow ls m).1 + (flow ls m).2 = water ls + m := by
  induction ls with
  | nil => intro m; simp [flow, water]
  | cons l ls ih =>
    intro m
    simp only [flow]
    split
    · have := ih (into l m).2
      have := into_water l m
      simp only [water]
      omega
    · simp only [water]
theorem flow_cold {ls : List Ly} : ∀ {m : Int}, Fits ls → 0 ≤ m → cold (flow ls m).1 ≤ cold ls := by
  induction ls with
  | nil => intro m h hm; exact Int.le_refl _
  | cons l ls ih =>
    intro m h hm
    simp only [flow]
    split
    · have := ih h.tail (into_fit h.head hm).2
      have := (into_cold h.head hm).1
      simp only [cold]
      omega
    · exact Int.le_refl _
theorem flow_length (ls : List Ly) : ∀ (m : Int), (flow ls m).1.length = ls.length := by
  induction ls with
  | nil => intro m; rfl
  | cons l ls ih =>
    intro m
    simp only [flow]
    split
    · simp [ih]
    · rfl
theorem flow_succ {ls : List Ly} : ∀ {m : Int}, Fits ls → 0 ≤ m → flow ls (m + 1) = ((flow (flow1 ls).1 m).1, (flow1 ls).2 + (flow (flow1 ls).1 m).2) := by
  induction ls with
  | nil => intro m _ _; simp [flow, flow1]; omega
  | cons l ls ih =>
    intro m h hm
    obtain ⟨a, b, c, d⟩ := h.head
    have hlt : 0 < m + 1 := by omega
    simp only [flow1]
    split
    · rename_i hf
      obtain ⟨f2, f1⟩ := hf
      have e : into l (m + 1) = (l, m + 1) := by
        simp only [into]
        refine Prod.ext ?_ ?_
        · apply Ly.ext' <;> dsimp only <;> omega
        · dsimp only; omega
      have e' : into l m = (l, m) := by
        simp only [into]
        refine Prod.ext ?_ ?_
        · apply Ly.ext' <;> dsimp only <;> omega
        · dsimp only; omega
      simp only [flow, if_pos hlt, e]
      rw [ih h.tail hm]
      by_cases h0 : 0 < m
      · rw [if_pos h0, e']
      · have : m = 0 := by omega
        subst this
        simp [flow_zero]
    · rename_i hf
      split
      · rename_i h2
        simp only [flow, if_pos hlt]
        by_cases h0 : 0 < m
        · have e : into l (m + 1) = into ⟨l.f0 + 1, l.f1, l.f2 - 1⟩ m := by
            simp only [into]
            refine Prod.ext ?_ ?_
            · apply Ly.ext' <;> dsimp only <;> omega
            · dsimp only; omega
          rw [if_pos h0, e]
          simp
        · have : m = 0 := by omega
          subst this
          have e : into l (0 + 1) = (⟨l.f0 + 1, l.f1, l.f2 - 1⟩, 0) := by
            simp only [into]
            refine Prod.ext ?_ ?_
            · apply Ly.ext' <;> dsimp only <;> omega
            · dsimp only; omega
          rw [e]
          simp [flow_zero]
      · rename_i h2
        simp only [flow, if_pos hlt]
        by_cases h0 : 0 < m
        · have e : into l (m + 1) = into ⟨l.f0, l.f1 + 1, l.f2⟩ m := by
            simp only [into]
            refine Prod.ext ?_ ?_
            · apply Ly.ext' <;> dsimp only <;> omega
            · dsimp only; omega
          rw [if_pos h0, e]
          simp
        · have : m = 0 := by omega
          subst this
          have e : into l (0 + 1) = (⟨l.f0, l.f1 + 1, l.f2⟩, 0) := by
            simp only [into]
            refine Prod.ext ?_ ?_
            · apply Ly.ext' <;> dsimp only <;> omega
            · dsimp only; omega
          rw [e]
          simp [flow_zero]
end Go.Proofs.YtpldcikmlpegpaaDoor.Plain
end
section
namespace Go.Proofs.YtpldcikmlpegpaaDoor.Plain
open Go.RowKit Go.Proofs.YtpldcikmlpegpaaDoor.PB
def lose1 (l : Ly) (ls : List Ly) (more : Int) : List Ly × Int :=
  let wet := min (l.f1 + more) ((l.f0 - 1) / 20)
  let r := flow ls (l.f1 + more - wet)
  if l.f0 - 1 = 0 then r else (⟨l.f0 - 1, wet, l.f2⟩ :: r.1, r.2)
def vanish1 : List Ly → List Ly × Int
  | [] => ([], 0)
  | l :: ls => lose1 l ls 0
def melt1 : List Ly → List Ly × Int
  | [] => ([], 0)
  | l :: ls => if 0 < l.f2 then (⟨l.f0, l.f1, l.f2 - 1⟩ :: ls, 0) else lose1 l ls 1
def times (f : List Ly → List Ly × Int) : Nat → List Ly → List Ly × Int × Int
  | 0, L => (L, 0, 0)
  | _ + 1, [] => ([], 0, 0)
  | n + 1, l :: ls => ((times f n (f (l :: ls)).1).1, (f (l :: ls)).2 + (times f n (f (l :: ls)).1).2.1, 1 + (times f n (f (l :: ls)).1).2.2)
def Live (ls : List Ly) : Prop := ∀ l ∈ ls, Fit l ∧ 1 ≤ l.f0
theorem Live.fits {ls : List Ly} (h : Live ls) : Fits ls := fun l hl => (h l hl).1
theorem Live.nil : Live [] := by intro l h; cases h
theorem Live.cons {l : Ly} {ls : List Ly} (h : Fit l) (h1 : 1 ≤ l.f0) (hs : Live ls) : Live (l :: ls) := by
  intro x hx
  rcases List.mem_cons.mp hx with rfl | hx
  · exact ⟨h, h1⟩
  · exact hs x hx
theorem Live.head {l : Ly} {ls : List Ly} (h : Live (l :: ls)) : Fit l ∧ 1 ≤ l.f0 := h l List.mem_cons_self
theorem Live.tail {l : Ly} {ls : List Ly} (h : Live (l :: ls)) : Live ls := fun x hx => h x (List.mem_cons_of_mem _ hx)
theorem flow_live {ls : List Ly} : ∀ {m : Int}, Live ls → 0 ≤ m → Live (flow ls m).1 := by
  induction ls with
  | nil => intro m h hm; exact Live.nil
  | cons l ls ih =>
    intro m h hm
    simp only [flow]
    split
    · obtain ⟨f, r⟩ := into_fit h.head.1 hm
      have := (into_cold h.head.1 hm).2
      exact Live.cons f (by have := h.head.2; omega) (ih h.tail r)
    · exact h
theorem lose1_rest {l : Ly} {more : Int} (h : Fit l) (h1 : 1 ≤ l.f0) (hm : 0 ≤ more) : 0 ≤ l.f1 + more - min (l.f1 + more) ((l.f0 - 1) / 20) ∧ 0 ≤ min (l.f1 + more) ((l.f0 - 1) / 20) := by
  obtain ⟨a, b, c, d⟩ := h
  omega
theorem lose1_live {l : Ly} {ls : List Ly} {more : Int} (h : Live (l :: ls)) (hm : 0 ≤ more) : Live (lose1 l ls more).1 ∧ 0 ≤ (lose1 l ls more).2 := by
  obtain ⟨f, h1⟩ := h.head
  obtain ⟨r0, w0⟩ := lose1_rest f h1 hm
  have g := flow_fit h.tail.fits r0
  have g' := flow_live h.tail r0
  simp only [lose1]
  split
  · exact ⟨g', g.2⟩
  · refine ⟨Live.cons ?_ ?_ g', g.2⟩
    · obtain ⟨a, b, c, d⟩ := f
      simp only [Fit]
      omega
    · dsimp only
      omega
theorem lose1_water {l : Ly} {ls : List Ly} {more : Int} (h : Live (l :: ls)) (hm : 0 ≤ more) : water (lose1 l ls more).1 + (lose1 l ls more).2 = water (l :: ls) - 1 + more := by
  obtain ⟨f, h1⟩ := h.head
  have g := flow_water ls (l.f1 + more - min (l.f1 + more) ((l.f0 - 1) / 20))
  obtain ⟨a, b, c, d⟩ := f
  simp only [lose1]
  split
  · simp only [water]
    omega
  · simp only [water]
    omega
theorem lose1_cold {l : Ly} {ls : List Ly} {more : Int} (h : Live (l :: ls)) (hm : 0 ≤ more) : cold (lose1 l ls more).1 ≤ cold (l :: ls) := by
  obtain ⟨f, h1⟩ := h.head
  obtain ⟨r0, w0⟩ := lose1_rest f h1 hm
  have g := flow_cold h.tail.fits r0
  obtain ⟨a, b, c, d⟩ := f
  simp only [lose1]
  split
  · simp only [cold]; omega
  · simp only [cold]; omega
structure Round (f : List Ly → List Ly × Int) (d : Int) : Prop where
  live : ∀ {l ls}, Live (l :: ls) → Live (f (l :: ls)).1 ∧ 0 ≤ (f (l :: ls)).2
  water : ∀ {l ls}, Live (l :: ls) → water (f (l :: ls)).1 + (f (l :: ls)).2 + d = water (l :: ls)
  cold : ∀ {l ls}, Live (l :: ls) → cold (f (l :: ls)).1 ≤ cold (l :: ls)
  len : ∀ {l ls}, Live (l :: ls) → (f (l :: ls)).1.length ≤ (l :: ls).length
theorem lose1_len (l : Ly) (ls : List Ly) (more : Int) : (lose1 l ls more).1.length ≤ (l :: ls).length := by
  simp only [lose1]
  split <;> simp [flow_length]
theorem vanish_round : Round vanish1 1 where
  live h := lose1_live h (Int.le_refl _)
  water h := by have := lose1_water h (Int.le_refl 0); simp only [vanish1]; omega
  cold h := lose1_cold h (Int.le_refl _)
  len _ := lose1_len _ _ _
theorem melt_round : Round melt1 0 where
  live {l ls} h := by
    simp only [melt1]
    split
    · rename_i h2
      obtain ⟨⟨a, b, c, d⟩, h1⟩ := h.head
      exact ⟨Live.cons (by simp only [Fit]; omega) h1 h.tail, Int.le_refl _⟩
    · exact lose1_live h (by omega)
  water {l ls} h := by
    simp only [melt1]
    split
    · simp only [water]; omega
    · have := lose1_water h (show (0 : Int) ≤ 1 by omega); omega
  cold {l ls} h := by
    simp only [melt1]
    split
    · simp only [cold]; omega
    · exact lose1_cold h (by omega)
  len {l ls} h := by
    simp only [melt1]
    split
    · simp
    · exact lose1_len _ _ _
section
variable {f : List Ly → List Ly × Int} {d : Int}
theorem times_keeps (hf : Round f d) (n : Nat) : ∀ {L : List Ly}, Live L → Live (times f n L).1 ∧ 0 ≤ (times f n L).2.1 ∧ 0 ≤ (times f n L).2.2 ∧ (times f n L).2.2 ≤ n ∧
    water (times f n L).1 + (times f n L).2.1 + d * (times f n L).2.2 = water L ∧ cold (times f n L).1 ≤ cold L ∧ (times f n L).1.length ≤ L.length ∧ ((times f n L).1 ≠ [] → (times f n L).2.2 = n) := by
  induction n with
  | zero => intro L h; simp [times, h]
  | succ n ih =>
    intro L h
    cases L with
    | nil => simp [times, Live.nil]; omega
    | cons l ls =>
      have a := hf.live h
      have b := hf.water h
      have c := hf.cold h
      have e := hf.len h
      obtain ⟨i1, i2, i3, i4, i5, i6, i7, i8⟩ := ih a.1
      have hd : d * (1 + (times f n (f (l :: ls)).1).2.2) = d + d * (times f n (f (l :: ls)).1).2.2 := by rw [Int.mul_add, Int.mul_one]
      simp only [times]
      refine ⟨i1, by omega, by omega, by omega, by omega, by omega, by omega, fun hne => ?_⟩
      have := i8 hne
      omega
end
def freezes : List Ly → Int → List Ly × Int
  | [], m => ([], m)
  | l :: ls, m => (⟨l.f0 + min m l.f1, l.f1 - min m l.f1, l.f2⟩ :: (freezes ls (m - min m l.f1)).1, (freezes ls (m - min m l.f1)).2)
def chill : List Ly → Int → List Ly
  | [], _ => []
  | l :: ls, m => ⟨l.f0, l.f1, l.f2 + m⟩ :: ls
def freeze (ls : List Ly) (m : Int) : List Ly := chill (freezes ls m).1 (freezes ls m).2
theorem freezes_fit {ls : List Ly} : ∀ {m : Int}, Live ls → 0 ≤ m → Live (freezes ls m).1 ∧ 0 ≤ (freezes ls m).2 ∧ (freezes ls m).2 ≤ m ∧ water (freezes ls m).1 = water ls ∧ cold (freezes ls m).1 = cold ls ∧ (freezes ls m).1.length = ls.length := by
  induction ls with
  | nil => intro m h hm; exact ⟨Live.nil, hm, Int.le_refl _, rfl, rfl, rfl⟩
  | cons l ls ih =>
    intro m h hm
    obtain ⟨⟨a, b, c, d⟩, h1⟩ := h.head
    obtain ⟨i1, i2, i3, i4, i5, i6⟩ := ih (m := m - min m l.f1) h.tail (by omega)
    simp only [freezes]
    refine ⟨Live.cons ?_ ?_ i1, i2, by omega, ?_, ?_, ?_⟩
    · simp only [Fit]; omega
    · dsimp only; omega
    · simp only [water]; omega
    · simp only [cold]; omega
    · simp [i6]
end Go.Proofs.YtpldcikmlpegpaaDoor.Plain
end
section
namespace Go.Proofs.YtpldcikmlpegpaaDoor.Plain
open Go.RowKit Go.Proofs.YtpldcikmlpegpaaDoor.PB
theorem wr (x : Int) (h : -9223372036854775808 ≤ x ∧ x ≤ 9223372036854775807) : wrap64 x = x := by
  unfold wrap64
  omega
def Right (l : Ly) : Prop := 1 ≤ l.f0 ∧ l.f0 ≤ 65536 ∧ 0 ≤ l.f2 ∧ l.f2 ≤ 65536 ∧ 0 ≤ l.f1 ∧ l.f1 ≤ l.f0 / 20 ∧ (l.f1 = 0 ∨ l.f2 = 0)
instance (l : Ly) : Decidable (Right l) := inferInstanceAs (Decidable (_ ∧ _))
def Rights (ls : List Ly) : Prop := ∀ l ∈ ls, Right l
instance (ls : List Ly) : Decidable (Rights ls) := inferInstanceAs (Decidable (∀ l ∈ ls, Right l))
def Valid (ls : List Ly) : Prop := ls.length ≤ 64 ∧ Rights ls ∧ water ls ≤ 65536 ∧ cold ls ≤ 65536
instance (ls : List Ly) : Decidable (Valid ls) := inferInstanceAs (Decidable (_ ∧ _))
def checkE (ls : List Ly) : Int := if Valid ls then 0 else 20
theorem Right.live {l : Ly} (h : Right l) : Fit l ∧ 1 ≤ l.f0 := by
  obtain ⟨a, b, c, d, e, f, g⟩ := h
  unfold Fit
  omega
theorem Rights.live {ls : List Ly} (h : Rights ls) : Live ls := fun l hl => (h l hl).live
theorem Rights.head {l : Ly} {ls : List Ly} (h : Rights (l :: ls)) : Right l := h l List.mem_cons_self
theorem Rights.tail {l : Ly} {ls : List Ly} (h : Rights (l :: ls)) : Rights ls := fun x hx => h x (List.mem_cons_of_mem _ hx)
theorem Valid.live {ls : List Ly} (h : Valid ls) : Live ls := h.2.1.live
theorem from_eq (a b c : Int) : pack_from.f a b c = some (decide (b ≤ a ∧ a ≤ c)) := by
  unfold pack_from.f
  by_cases h : a ≥ b
  · rw [if_pos h]; congr 1; simp; omega
  · rw [if_neg h]; congr 1; symm; simp; omega
theorem some_true {p : Prop} [Decidable p] (h : p) : (some true : Option Bool) = some (decide p) := by rw [decide_eq_true h]
theorem some_false {p : Prop} [Decidable p] (h : ¬ p) : (some false : Option Bool) = some (decide p) := by rw [decide_eq_false h]
theorem right_eq (a b c : Int) : pack_right.f a b c = some (decide (Right ⟨a, b, c⟩)) := by
  unfold pack_right.f
  simp only [from_eq, Option.bind_some, pack_hold.f, decide_eq_true_eq]
  by_cases h1 : 1 ≤ a ∧ a ≤ 65536
  · have ht : wrap64 (Int.tdiv a 20) = a / 20 := by rw [Int.tdiv_eq_ediv_of_nonneg (by omega), wr _ (by omega)]
    rw [if_pos h1]
    by_cases h2 : 0 ≤ c ∧ c ≤ 65536
    · rw [if_pos h2, ht]
      by_cases h3 : 0 ≤ b ∧ b ≤ a / 20
      · rw [if_pos h3]
        by_cases h4 : b = 0
        · rw [if_pos h4]; exact some_true ⟨h1.1, h1.2, h2.1, h2.2, h3.1, h3.2, .inl h4⟩
        · rw [if_neg h4]
          by_cases h5 : c = 0
          · rw [show (c == 0) = true by simp [h5]]; exact some_true ⟨h1.1, h1.2, h2.1, h2.2, h3.1, h3.2, .inr h5⟩
          · rw [show (c == 0) = false by simp [h5]]; exact some_false (fun h => h.2.2.2.2.2.2.elim h4 h5)
      · rw [if_neg h3]; exact some_false (fun h => h3 ⟨h.2.2.2.2.1, h.2.2.2.2.2.1⟩)
    · rw [if_neg h2]; exact some_false (fun h => h2 ⟨h.2.2.1, h.2.2.2.1⟩)
  · rw [if_neg h1]; exact some_false (fun h => h1 ⟨h.1, h.2.1⟩)
theorem water_app (xs ys : List Ly) : water (xs ++ ys) = water xs + water ys := by
  induction xs with
  | nil => simp [water]
  | cons x xs ih => simp only [List.cons_append, water, ih]; omega
theorem cold_app (xs ys : List Ly) : cold (xs ++ ys) = cold xs + cold ys := by
  induction xs with
  | nil => simp [cold]
  | cons x xs ih => simp only [List.cons_append, cold, ih]; omega
theorem rd_drop {ls : List Ly} {i : Nat} (h : i < ls.length) : ls.drop i = rd_T48 ls (i : Int) :: ls.drop (i + 1) := by
  rw [List.drop_eq_getElem_cons h]
  congr 1
  simp [rd_T48, List.getD_eq_getElem?_getD, h]
theorem sums_loop (ls : List Ly) (hr : Rights ls) (hl : ls.length ≤ 128) : ∀ (d k i : Nat) (w c : Int), i + d = ls.length → d < k → 0 ≤ w → w ≤ 131072 * (i : Int) → 0 ≤ c → c ≤ 65536 * (i : Int) →
    pack_sums.l0 k w c ls (ls.length : Int) (i : Int) = some (w + water (ls.drop i), c + cold (ls.drop i)) := by
  intro d
  induction d with
  | zero =>
    intro k i w c hi hk _ _ _ _
    obtain ⟨k, rfl⟩ : ∃ j, k = j + 1 := ⟨k - 1, by omega⟩
    unfold pack_sums.l0
    rw [if_neg (by omega), List.drop_eq_nil_of_le (by omega)]
    simp [water, cold]
  | succ d ih =>
    intro k i w c hi hk h0 h1 h2 h3
    obtain ⟨k, rfl⟩ : ∃ j, k = j + 1 := ⟨k - 1, by omega⟩
    have hm : Right (rd_T48 ls (i : Int)) := hr _ (by
      have : rd_T48 ls (i : Int) ∈ ls.drop i := by rw [rd_drop (by omega)]; exact List.mem_cons_self
      exact List.mem_of_mem_drop this)
    obtain ⟨a, b, cc, dd, e, f, g⟩ := hm
    unfold pack_sums.l0
    rw [if_pos (by omega), if_pos (by omega), if_pos (by omega)]
    rw [rd_drop (show i < ls.length by omega)]
    simp only [water, cold]
    rw [wr ((rd_T48 ls (i : Int)).f0 + _) (by omega), wr (w + _) (by omega), wr (c + _) (by omega), wr ((i : Int) + 1) (by omega)]
    have := ih k (i + 1) (w + ((rd_T48 ls (i : Int)).f0 + (rd_T48 ls (i : Int)).f1)) (c + (rd_T48 ls (i : Int)).f2) (by omega) (by omega) (by omega) (by push_cast; omega) (by omega) (by push_cast; omega)
    push_cast at this
    rw [this]
    congr 2 <;> omega
theorem sums_eq {k : Nat} {ls : List Ly} (hr : Rights ls) (hl : ls.length ≤ 128) (hk : ls.length < k) : pack_sums.f k ls = some (water ls, cold ls) := by
  unfold pack_sums.f
  have := sums_loop ls hr hl ls.length k 0 0 0 (by omega) hk (by omega) (by omega) (by omega) (by omega)
  simpa using this
theorem check_loop (ls : List Ly) (hl : ls.length ≤ 64) : ∀ (d k i : Nat), i + d = ls.length → d + 65 < k → Rights (ls.take i) →
    pack_Check.l0 k ls (ls.length : Int) (i : Int) ls = some (checkE ls) := by
  intro d
  induction d with
  | zero =>
    intro k i hi hk h
    obtain ⟨k, rfl⟩ : ∃ j, k = j + 1 := ⟨k - 1, by omega⟩
    rw [List.take_of_length_le (by omega)] at h
    unfold pack_Check.l0
    rw [if_neg (by omega), sums_eq h (by omega) (by omega)]
    simp only [Option.bind_some, checkE]
    by_cases hw : water ls > 65536
    · rw [if_pos hw, if_neg (fun hv : Valid ls => by have := hv.2.2.1; omega)]
    · rw [if_neg hw]
      by_cases hc : cold ls > 65536
      · rw [if_pos hc, if_neg (fun hv : Valid ls => by have := hv.2.2.2; omega)]
      · rw [if_neg hc, if_pos (show Valid ls from ⟨hl, h, by omega, by omega⟩)]
  | succ d ih =>
    intro k i hi hk h
    obtain ⟨k, rfl⟩ : ∃ j, k = j + 1 := ⟨k - 1, by omega⟩
    unfold pack_Check.l0
    rw [if_pos (by omega), if_pos (by omega), if_pos (by omega), right_eq]
    simp only [Option.bind_some, decide_eq_true_eq]
    have hd := rd_drop (show i < ls.length by omega)
    by_cases hr : Right (rd_T48 ls (i : Int))
    · rw [if_pos (by exact hr), wr ((i : Int) + 1) (by omega)]
      have := ih k (i + 1) (by omega) (by omega) (by
        intro x hx
        rw [List.take_add_one] at hx
        rcases List.mem_append.mp hx with hx | hx
        · exact h x hx
        · have e : ls[i]?.toList = [rd_T48 ls (i : Int)] := by
            simp [rd_T48, List.getD_eq_getElem?_getD, show i < ls.length by omega]
          rw [e] at hx
          rw [List.mem_singleton.mp hx]
          exact hr)
      push_cast at this
      exact this
    · rw [if_neg (by exact hr), checkE, if_neg]
      intro hv
      exact hr (hv.2.1 _ (by
        have : rd_T48 ls (i : Int) ∈ ls.drop i := by rw [hd]; exact List.mem_cons_self
        exact List.mem_of_mem_drop this))
theorem check_eq {k : Nat} (hk : 130 ≤ k) (ls : List Ly) : pack_Check.f k ls = some (checkE ls) := by
  unfold pack_Check.f
  by_cases h : (ls.length : Int) > 64
  · rw [if_pos h, checkE, if_neg (by rintro ⟨h1, _⟩; omega)]
  · rw [if_neg h]
    exact check_loop ls (by omega) ls.length k 0 (by omega) (by omega) (by intro x hx; simp at hx)
theorem checkE_zero {ls : List Ly} : checkE ls = 0 ↔ Valid ls := by
  unfold checkE
  split <;> simp_all
theorem checkE_pos {ls : List Ly} (h : Valid ls) : checkE ls = 0 := checkE_zero.2 h
theorem checkE_neg {ls : List Ly} (h : ¬ Valid ls) : checkE ls = 20 := if_neg h
instance : DecidableEq Ly := fun a b => decidable_of_iff (a.f0 = b.f0 ∧ a.f1 = b.f1 ∧ a.f2 = b.f2) ⟨fun h => Ly.ext' h.1 h.2.1 h.2.2, fun h => by rw [h]; exact ⟨rfl, rfl, rfl⟩⟩
theorem same_loop (xs ys : List Ly) (hl : xs.length = ys.length) (h64 : xs.length ≤ 4096) : ∀ (d k i : Nat), i + d = xs.length → d < k → xs.take i = ys.take i →
    snowlineref02_Same.l0 k (i : Int) xs ys = some (decide (xs = ys)) := by
  intro d
  induction d with
  | zero =>
    intro k i hi hk h
    obtain ⟨k, rfl⟩ : ∃ j, k = j + 1 := ⟨k - 1, by omega⟩
    rw [List.take_of_length_le (by omega), List.take_of_length_le (by omega)] at h
    unfold snowlineref02_Same.l0
    rw [if_neg (by omega)]
    exact some_true h
  | succ d ih =>
    intro k i hi hk h
    obtain ⟨k, rfl⟩ : ∃ j, k = j + 1 := ⟨k - 1, by omega⟩
    unfold snowlineref02_Same.l0
    rw [if_pos (by omega), if_pos (by omega), if_pos (by omega)]
    have hx := rd_drop (show i < xs.length by omega)
    have hy := rd_drop (show i < ys.length by omega)
    by_cases hr : rd_T48 xs (i : Int) = rd_T48 ys (i : Int)
    · rw [hr]
      simp only [BEq.rfl, Bool.not_true, Bool.or_self]
      rw [if_neg (by simp), wr ((i : Int) + 1) (by omega)]
      have := ih k (i + 1) (by omega) (by omega) (by
        have e : ∀ (zs : List Ly), i < zs.length → zs[i]?.toList = [rd_T48 zs (i : Int)] := by
          intro zs hz
          simp [rd_T48, List.getD_eq_getElem?_getD, hz]
        rw [List.take_add_one, List.take_add_one, h, e xs (by omega), e ys (by omega), hr])
      push_cast at this
      exact this
    · rw [if_pos]
      · refine some_false ?_
        rintro rfl
        exact hr rfl
      · by_cases h0 : (rd_T48 xs (i : Int)).f0 = (rd_T48 ys (i : Int)).f0 <;> by_cases h1 : (rd_T48 xs (i : Int)).f1 = (rd_T48 ys (i : Int)).f1 <;> by_cases h2 : (rd_T48 xs (i : Int)).f2 = (rd_T48 ys (i : Int)).f2 <;> simp [h0, h1, h2]
        exact hr (Ly.ext' h0 h1 h2)
theorem same_eq {k : Nat} {xs ys : List Ly} (h64 : xs.length ≤ 4096) (hk : xs.length < k) : snowlineref02_Same.f k xs ys = some (decide (xs = ys)) := by
  unfold snowlineref02_Same.f
  by_cases h : (xs.length : Int) = (ys.length : Int)
  · rw [if_pos h]
    exact same_loop xs ys (by omega) h64 xs.length k 0 (by omega) hk rfl
  · rw [if_neg h]
    refine some_false ?_
    rintro rfl
    exact h rfl
end Go.Proofs.YtpldcikmlpegpaaDoor.Plain
end
section
namespace Go.Proofs.YtpldcikmlpegpaaDoor.Plain
open Go.RowKit Go.Proofs.YtpldcikmlpegpaaDoor.PB Go.Proofs.YtpldcikmlpegpaaDoor.Col Go.Proofs.YtpldcikmlpegpaaDoorW.PrintWords Go.Proofs.YtpldcikmlpegpaaDoorW.PrintMore
theorem mn_min (a b : Int) : mn a b = min a b := by unfold mn; split <;> omega
def St (c : C) (n : Nat) (L : List Ly) (o t : Int) : Prop :=
  c.n = n ∧ c.out = o ∧ c.taken = t ∧ ∃ pre post, c.at_ = pre ++ L ++ post ∧ pre.length = c.top ∧ c.top + L.length = n
theorem St.live {c : C} {n : Nat} {L : List Ly} {o t : Int} (h : St c n L o t) : c.live = L := by
  obtain ⟨h1, h2, h3, pre, post, h4, h5, h6⟩ := h
  unfold C.live
  rw [h4, ← h5, List.append_assoc, List.drop_left, show c.n - pre.length = L.length by omega, List.take_left]
theorem st_of (l : List Ly) : St (C.of l) (l.length + 1) l 0 0 :=
  ⟨rfl, rfl, rfl, [z48], List.replicate (64 - l.length) z48, rfl, rfl, by show 1 + l.length = _; omega⟩
theorem stepW_into {l : Ly} {m : Int} (h : Fit l) (hm : 0 ≤ m) (hw : l.f0 + l.f1 + m ≤ 1099511627776) (hc : l.f2 ≤ 1099511627776) : stepW l m = into l m := by
  obtain ⟨a, b, c, d⟩ := h
  have h0 : 0 ≤ l.f0 + min m l.f2 := by omega
  unfold stepW into
  simp only [mn_min]
  rw [wr (l.f0 + min m l.f2) (by omega), Int.tdiv_eq_ediv_of_nonneg h0, wr (m - min m l.f2) (by omega), wr ((l.f0 + min m l.f2) / 20) (by omega), wr ((l.f0 + min m l.f2) / 20 - l.f1) (by omega)]
  rw [wr (l.f1 + _) (by omega), wr (l.f2 - _) (by omega), wr (m - min m l.f2 - _) (by omega)]
theorem get_mid (pre : List Ly) (l : Ly) (post : List Ly) : (pre ++ l :: post).getD pre.length z48 = l := by
  simp [List.getD_eq_getElem?_getD]
theorem set_mid (pre : List Ly) (l x : Ly) (post : List Ly) : (pre ++ l :: post).set pre.length x = pre ++ x :: post := by
  simp
theorem flowAt_flow : ∀ (L pre post : List Ly) (m : Int), Fits L → 0 ≤ m → water L + m ≤ 1099511627776 → cold L ≤ 1099511627776 →
    flowAt L.length (pre ++ L ++ post) pre.length m = (pre ++ (flow L m).1 ++ post, (flow L m).2) := by
  intro L
  induction L with
  | nil => intro pre post m _ _ _ _; rfl
  | cons l ls ih =>
    intro pre post m hf hm hw hc
    have f := hf.head
    have w0 := water_nonneg hf.tail
    have c0 := cold_nonneg hf.tail
    simp only [water, cold] at hw hc
    obtain ⟨a, b, c, d⟩ := f
    simp only [List.length_cons, flowAt, flow]
    split
    · have e : pre ++ (l :: ls) ++ post = pre ++ l :: (ls ++ post) := by simp
      have hs : stepW l m = into l m := stepW_into hf.head hm (by omega) (by omega)
      rw [e, get_mid, set_mid, hs]
      obtain ⟨g, r⟩ := into_fit hf.head hm
      have hiw := into_water l m
      have hg := g
      obtain ⟨a', b', c', d'⟩ := hg
      have e2 : pre ++ (into l m).1 :: (ls ++ post) = (pre ++ [(into l m).1]) ++ ls ++ post := by simp
      have e3 : pre.length + 1 = (pre ++ [(into l m).1]).length := by simp
      rw [e2, e3, ih (pre ++ [(into l m).1]) post (into l m).2 hf.tail r (by omega) (by omega)]
      simp
    · rfl
theorem c_lose {c : C} {n : Nat} {l : Ly} {ls : List Ly} {o t more : Int} (h : St c n (l :: ls) o t) (hl : Live (l :: ls)) (hm : 0 ≤ more) (hm1 : more ≤ 1) (ho : 0 ≤ o) (hw : water (l :: ls) + o ≤ 549755813888) (hc : cold (l :: ls) ≤ 549755813888) :
    St (c.lose more) n (lose1 l ls more).1 (o + (lose1 l ls more).2) t := by
  obtain ⟨h1, h2, h3, pre, post, h4, h5, h6⟩ := h
  have hk := lose1_live hl hm
  have hkw := lose1_water hl hm
  have wn := water_nonneg hk.1.fits
  obtain ⟨⟨a, b, cc, d⟩, i1⟩ := hl.head
  have w0 := water_nonneg hl.tail.fits
  have c0 := cold_nonneg hl.tail.fits
  have hw' := hw
  have hc' := hc
  simp only [water, cold] at hw' hc'
  obtain ⟨r0, r1⟩ := lose1_rest (more := more) hl.head.1 hl.head.2 hm
  have e : pre ++ (l :: ls) ++ post = pre ++ l :: (ls ++ post) := by simp
  have hd : 0 ≤ l.f0 - 1 := by omega
  have hL : loseW l more = (⟨l.f0 - 1, min (l.f1 + more) ((l.f0 - 1) / 20), l.f2⟩, l.f1 + more - min (l.f1 + more) ((l.f0 - 1) / 20)) := by
    unfold loseW
    simp only [mn_min]
    rw [wr (l.f0 - 1) (by omega), wr (l.f1 + more) (by omega), Int.tdiv_eq_ediv_of_nonneg hd, wr ((l.f0 - 1) / 20) (by omega), wr (l.f1 + more - _) (by omega)]
  have hln : c.n - (c.top + 1) = ls.length := by simp only [List.length_cons] at h6; omega
  have hfl := flowAt_flow ls (pre ++ [⟨l.f0 - 1, min (l.f1 + more) ((l.f0 - 1) / 20), l.f2⟩]) post (l.f1 + more - min (l.f1 + more) ((l.f0 - 1) / 20)) hl.tail.fits r0 (by omega) (by omega)
  have e2 : pre ++ (⟨l.f0 - 1, min (l.f1 + more) ((l.f0 - 1) / 20), l.f2⟩ : Ly) :: (ls ++ post) = (pre ++ [⟨l.f0 - 1, min (l.f1 + more) ((l.f0 - 1) / 20), l.f2⟩]) ++ ls ++ post := by simp
  have e3 : pre.length + 1 = (pre ++ [(⟨l.f0 - 1, min (l.f1 + more) ((l.f0 - 1) / 20), l.f2⟩ : Ly)]).length := by simp
  have hat : c.at_.getD c.top z48 = l := by rw [h4, ← h5, e, get_mid]
  have hset : c.at_.set c.top (loseW l more).1 = (pre ++ [⟨l.f0 - 1, min (l.f1 + more) ((l.f0 - 1) / 20), l.f2⟩]) ++ ls ++ post := by rw [h4, ← h5, e, set_mid, hL, ← e2]
  have hr : flowAt (c.n - (c.top + 1)) (c.at_.set c.top (loseW l more).1) (c.top + 1) (loseW l more).2 = ((pre ++ [⟨l.f0 - 1, min (l.f1 + more) ((l.f0 - 1) / 20), l.f2⟩]) ++ (flow ls (l.f1 + more - min (l.f1 + more) ((l.f0 - 1) / 20))).1 ++ post, (flow ls (l.f1 + more - min (l.f1 + more) ((l.f0 - 1) / 20))).2) := by
    rw [hset, hln, hL, ← h5, e3]
    exact hfl
  have hsnd : (lose1 l ls more).2 = (flow ls (l.f1 + more - min (l.f1 + more) ((l.f0 - 1) / 20))).2 := by
    simp only [lose1]
    split <;> rfl
  have hfl' : (flow ls (l.f1 + more - min (l.f1 + more) ((l.f0 - 1) / 20))).1.length = ls.length := flow_length _ _
  unfold C.lose
  simp only [hat, hr]
  refine ⟨h1, ?_, h3, ?_⟩
  · show wrap64 (c.out + _) = _
    rw [h2, ← hsnd, wr _ (by omega)]
  · rw [wr (l.f0 - 1) (by omega)]
    simp only [lose1]
    simp only [List.length_cons] at h6
    by_cases hz : l.f0 - 1 = 0
    · rw [if_pos hz, if_pos hz]
      exact ⟨_, post, rfl, by simp [h5], by rw [hfl']; omega⟩
    · rw [if_neg hz, if_neg hz]
      exact ⟨pre, post, by simp, h5, by simp only [List.length_cons]; rw [hfl']; omega⟩
theorem c_melt {c : C} {n : Nat} {l : Ly} {ls : List Ly} {o t : Int} (h : St c n (l :: ls) o t) (hl : Live (l :: ls)) (ho : 0 ≤ o) (hw : water (l :: ls) + o ≤ 549755813888) (hc : cold (l :: ls) ≤ 549755813888) :
    St c.melt n (melt1 (l :: ls)).1 (o + (melt1 (l :: ls)).2) (t + 0) := by
  obtain ⟨h1, h2, h3, pre, post, h4, h5, h6⟩ := id h
  have e : pre ++ (l :: ls) ++ post = pre ++ l :: (ls ++ post) := by simp
  have hat : c.at_.getD c.top z48 = l := by rw [h4, ← h5, e, get_mid]
  have c0 := cold_nonneg hl.tail.fits
  have hc' := hc
  simp only [cold] at hc'
  unfold C.melt
  simp only [hat, melt1, Int.add_zero]
  split
  · refine ⟨h1, by simpa using h2, h3, pre, post, ?_, h5, by simpa using h6⟩
    show c.at_.set c.top _ = _
    rw [h4, ← h5, e, set_mid, wr (l.f2 - 1) (by omega)]
    simp
  · exact c_lose h hl (by omega) (by omega) ho hw hc
theorem c_vanish {c : C} {n : Nat} {l : Ly} {ls : List Ly} {o t : Int} (h : St c n (l :: ls) o t) (hl : Live (l :: ls)) (ho : 0 ≤ o) (ht : 0 ≤ t ∧ t ≤ 549755813888) (hw : water (l :: ls) + o ≤ 549755813888) (hc : cold (l :: ls) ≤ 549755813888) :
    St c.vanish n (vanish1 (l :: ls)).1 (o + (vanish1 (l :: ls)).2) (t + 1) := by
  obtain ⟨h1, h2, h3, r⟩ := c_lose h hl (Int.le_refl 0) (by omega) ho hw hc
  unfold C.vanish
  refine ⟨h1, h2, ?_, r⟩
  show wrap64 (c.taken + 1) = _
  rw [h.2.2.1, wr _ (by omega)]
theorem c_times {F : C → C} {f : List Ly → List Ly × Int} {d : Int} (hd : 0 ≤ d ∧ d ≤ 1) (hf : Round f d)
    (hF : ∀ {c : C} {n : Nat} {l : Ly} {ls : List Ly} {o t : Int}, St c n (l :: ls) o t → Live (l :: ls) → 0 ≤ o → 0 ≤ t → t ≤ 549755813888 → water (l :: ls) + o ≤ 549755813888 → cold (l :: ls) ≤ 549755813888 → St (F c) n (f (l :: ls)).1 (o + (f (l :: ls)).2) (t + d)) :
    ∀ (k : Nat) {c : C} {n : Nat} {L : List Ly} {o t : Int}, St c n L o t → Live L → 0 ≤ o → 0 ≤ t → t + (k : Int) ≤ 549755813888 → water L + o ≤ 549755813888 → cold L ≤ 549755813888 →
      St (C.times F k c) n (times f k L).1 (o + (times f k L).2.1) (t + d * (times f k L).2.2) := by
  intro k
  induction k with
  | zero => intro c n L o t h _ _ _ _ _ _; simpa [C.times, times] using h
  | succ k ih =>
    intro c n L o t h hl ho ht htk hw hc
    obtain ⟨h1, h2, h3, pre, post, h4, h5, h6⟩ := id h
    cases L with
    | nil =>
      simp only [List.length_nil] at h6
      simp only [C.times, times]
      rw [if_pos (by omega)]
      simpa using h
    | cons l ls =>
      simp only [List.length_cons] at h6
      simp only [C.times, times]
      rw [if_neg (by omega)]
      have hr := hF h hl ho ht (by omega) hw hc
      obtain ⟨q1, q2⟩ := hf.live hl
      have q3 := hf.water hl
      have q4 := hf.cold hl
      have := ih hr q1 (by omega) (by omega) (by push_cast at htk; omega) (by omega) (by omega)
      have e : o + (f (l :: ls)).2 + (times f k (f (l :: ls)).1).2.1 = o + ((f (l :: ls)).2 + (times f k (f (l :: ls)).1).2.1) := by omega
      have e' : t + d + d * (times f k (f (l :: ls)).1).2.2 = t + d * (1 + (times f k (f (l :: ls)).1).2.2) := by rw [Int.mul_add, Int.mul_one]; omega
      rw [e, e'] at this
      exact this
end Go.Proofs.YtpldcikmlpegpaaDoor.Plain
end
section
namespace Go.Proofs.YtpldcikmlpegpaaDoor.Plain
open Go.RowKit Go.Proofs.YtpldcikmlpegpaaDoor.PB Go.Proofs.YtpldcikmlpegpaaDoor.Col Go.Proofs.YtpldcikmlpegpaaDoorW.PrintWords Go.Proofs.YtpldcikmlpegpaaDoorW.PrintMore
theorem freezeAt_freezes : ∀ (L pre post : List Ly) (m : Int), Fits L → 0 ≤ m → m ≤ 549755813888 → water L ≤ 549755813888 →
    freezeAt L.length (pre ++ L ++ post) pre.length m = (pre ++ (freezes L m).1 ++ post, (freezes L m).2) := by
  intro L
  induction L with
  | nil => intro pre post m _ _ _ _; rfl
  | cons l ls ih =>
    intro pre post m hf hm hmm hw
    have w0 := water_nonneg hf.tail
    simp only [water] at hw
    obtain ⟨a, b, c, d⟩ := hf.head
    simp only [List.length_cons, freezeAt, freezes]
    have e : pre ++ (l :: ls) ++ post = pre ++ l :: (ls ++ post) := by simp
    rw [e, get_mid, set_mid, mn_min, wr (l.f0 + min m l.f1) (by omega), wr (l.f1 - min m l.f1) (by omega), wr (m - min m l.f1) (by omega)]
    have e2 : pre ++ (⟨l.f0 + min m l.f1, l.f1 - min m l.f1, l.f2⟩ : Ly) :: (ls ++ post) = (pre ++ [⟨l.f0 + min m l.f1, l.f1 - min m l.f1, l.f2⟩]) ++ ls ++ post := by simp
    have e3 : pre.length + 1 = (pre ++ [(⟨l.f0 + min m l.f1, l.f1 - min m l.f1, l.f2⟩ : Ly)]).length := by simp
    rw [e2, e3, ih _ post _ hf.tail (by omega) (by omega) (by omega)]
    simp
theorem c_freeze {c : C} {n : Nat} {L : List Ly} {o t m : Int} (h : St c n L o t) (hl : Live L) (hm : 0 ≤ m) (hmm : m ≤ 549755813888) (hw : water L ≤ 549755813888) (hc : cold L ≤ 549755813888) : St (c.freeze m) n (freeze L m) o t := by
  obtain ⟨h1, h2, h3, pre, post, h4, h5, h6⟩ := id h
  have hf := freezeAt_freezes L pre post m hl.fits hm hmm hw
  have hr : freezeAt (c.n - c.top) c.at_ c.top m = (pre ++ (freezes L m).1 ++ post, (freezes L m).2) := by
    rw [h4, ← h5, show c.n - pre.length = L.length by omega]
    exact hf
  obtain ⟨k1, k2, k3, k4, k5, k6⟩ := freezes_fit hl hm
  unfold C.freeze
  simp only [hr]
  cases hL : (freezes L m).1 with
  | nil =>
    have : L.length = 0 := by rw [hL] at k6; simpa using k6.symm
    rw [if_neg (by omega)]
    refine ⟨h1, h2, h3, pre, post, ?_, h5, ?_⟩
    · show pre ++ [] ++ post = _
      simp [freeze, hL, chill]
    · simp [freeze, hL, chill]; omega
  | cons x xs =>
    have hlen : L.length = xs.length + 1 := by rw [hL] at k6; simpa using k6.symm
    rw [if_pos (by omega)]
    have e : pre ++ (x :: xs) ++ post = pre ++ x :: (xs ++ post) := by simp
    have hx : cold (x :: xs) ≤ 549755813888 := by rw [← hL, k5]; exact hc
    have xl : Live (x :: xs) := by rw [← hL]; exact k1
    have c0 := cold_nonneg xl.tail.fits
    obtain ⟨a, b, cc, d⟩ := xl.head.1
    simp only [cold] at hx
    refine ⟨h1, h2, h3, pre, post, ?_, h5, ?_⟩
    · show (pre ++ (x :: xs) ++ post).set c.top _ = _
      rw [e, ← h5, get_mid, set_mid, wr (x.f2 + _) (by omega)]
      simp [freeze, hL, chill]
    · simp only [freeze, hL, chill, List.length_cons]
      omega
theorem c_rain {c : C} {n : Nat} {L : List Ly} {o t m : Int} (h : St c n L o t) (hl : Live L) (ho : 0 ≤ o) (hm : 0 ≤ m) (hw : water L + m + o ≤ 549755813888) (hc : cold L ≤ 549755813888) : St (c.rain m) n (flow L m).1 (o + (flow L m).2) t := by
  obtain ⟨h1, h2, h3, pre, post, h4, h5, h6⟩ := id h
  have hf := flowAt_flow L pre post m hl.fits hm (by omega) (by omega)
  have hr : flowAt (c.n - c.top) c.at_ c.top m = (pre ++ (flow L m).1 ++ post, (flow L m).2) := by
    rw [h4, ← h5, show c.n - pre.length = L.length by omega]
    exact hf
  have k1 := flow_fit hl.fits hm
  have k2 := flow_water L m
  have k3 := water_nonneg k1.1
  have k4 := flow_length L m
  unfold C.rain
  simp only [hr]
  refine ⟨h1, ?_, h3, pre, post, rfl, h5, ?_⟩
  · show wrap64 (c.out + _) = _
    rw [h2, wr _ (by omega)]
  · show c.top + _ = _
    omega
def StepOk (k m cd : Int) : Prop := (1 ≤ k ∧ k ≤ 6) ∧ (0 ≤ m ∧ m ≤ 65536) ∧ (0 ≤ cd ∧ cd ≤ if k = 1 then 65536 else 0)
instance (k m cd : Int) : Decidable (StepOk k m cd) := inferInstanceAs (Decidable (_ ∧ _))
def doStep (L : List Ly) (k m cd : Int) : List Ly × Int :=
  if k = 1 then (if 0 < m then (⟨m, 0, cd⟩ :: L, 0) else (L, 0)) else if k = 2 then flow L m
  else if k = 3 then ((times melt1 m.toNat L).1, (times melt1 m.toNat L).2.1)
  else if k = 4 then (freeze L m, 0) else ((times vanish1 m.toNat L).1, (times vanish1 m.toNat L).2.1)
def stepE (k m cd : Int) : Int := if StepOk k m cd then 0 else 21
def applyP (L : List Ly) (k m cd : Int) : List Ly × Int × Int :=
  if Valid L then (if StepOk k m cd then (if Valid (doStep L k m cd).1 then ((doStep L k m cd).1, (doStep L k m cd).2, 0) else ([], 0, 2)) else ([], 0, 21)) else ([], 0, 20)
theorem step_eq {j : Nat} (k m cd : Int) : pack_CheckStep.f (j + 1) k m cd = some (stepE k m cd) := by
  unfold pack_CheckStep.f stepE
  simp only [pack_CheckStep.j0, from_eq, Option.bind_some, decide_eq_true_eq]
  by_cases h1 : 1 ≤ k ∧ k ≤ 6
  · by_cases h2 : 0 ≤ m ∧ m ≤ 65536
    · by_cases hk : k = 1
      · by_cases h3 : 0 ≤ cd ∧ cd ≤ 65536
        · rw [if_pos hk, if_pos h1, if_pos h2, if_pos h3, if_pos (show StepOk k m cd from ⟨h1, h2, by rw [if_pos hk]; exact h3⟩)]
        · rw [if_pos hk, if_pos h1, if_pos h2, if_neg h3, if_neg (fun h : StepOk k m cd => h3 (by have := h.2.2; rw [if_pos hk] at this; exact this))]
      · by_cases h3 : 0 ≤ cd ∧ cd ≤ 0
        · rw [if_neg hk, if_pos h1, if_pos h2, if_pos h3, if_pos (show StepOk k m cd from ⟨h1, h2, by rw [if_neg hk]; exact h3⟩)]
        · rw [if_neg hk, if_pos h1, if_pos h2, if_neg h3, if_neg (fun h : StepOk k m cd => h3 (by have := h.2.2; rw [if_neg hk] at this; exact this))]
    · rw [if_neg (fun h : StepOk k m cd => h2 h.2.1)]
      split <;> rfl
  · rw [if_neg (fun h : StepOk k m cd => h1 h.1)]
    split <;> rfl
theorem Valid.bounds {L : List Ly} (h : Valid L) : water L + 0 ≤ 549755813888 ∧ cold L ≤ 549755813888 := by
  obtain ⟨_, _, a, b⟩ := h
  omega
theorem step_st {L : List Ly} {k m cd : Int} (hv : Valid L) (hs : StepOk k m cd) : ∃ t, St ((C.of L).step k m cd) (L.length + 1) (doStep L k m cd).1 (doStep L k m cd).2 t := by
  have h0 := st_of L
  obtain ⟨b1, b2⟩ := hv.bounds
  have hl := hv.live
  obtain ⟨hk, hm, hc⟩ := hs
  obtain ⟨_, _, v1, v2⟩ := id hv
  unfold C.step doStep
  by_cases k1 : k = 1
  · rw [if_pos k1, if_pos k1]
    split
    · refine ⟨0, rfl, rfl, rfl, [], List.replicate (64 - L.length) z48, rfl, rfl, ?_⟩
      show 0 + (L.length + 1) = _
      omega
    · exact ⟨0, h0⟩
  · rw [if_neg k1, if_neg k1]
    by_cases k2 : k = 2
    · rw [if_pos k2, if_pos k2]
      have := c_rain h0 hl (Int.le_refl 0) hm.1 (by omega) b2
      exact ⟨0, by simpa using this⟩
    · rw [if_neg k2, if_neg k2]
      by_cases k3 : k = 3
      · rw [if_pos k3, if_pos k3]
        have := c_times (F := C.melt) (d := 0) (by omega) melt_round (fun h hl ho _ _ hw hc => c_melt h hl ho hw hc) m.toNat h0 hl (Int.le_refl 0) (Int.le_refl 0) (by omega) b1 b2
        exact ⟨_, by simpa using this⟩
      · rw [if_neg k3, if_neg k3]
        by_cases k4 : k = 4
        · rw [if_pos k4, if_pos k4]
          exact ⟨0, c_freeze h0 hl hm.1 (by omega) (by omega) b2⟩
        · rw [if_neg k4, if_neg k4, if_pos (by omega)]
          have := c_times (F := C.vanish) (d := 1) (by omega) vanish_round (fun h hl ho ht ht2 hw hc => c_vanish h hl ho ⟨ht, ht2⟩ hw hc) m.toNat h0 hl (Int.le_refl 0) (Int.le_refl 0) (by omega) b1 b2
          exact ⟨_, by simpa using this⟩
theorem apply_eq (L : List Ly) (k m cd : Int) : pack_Apply.f L k m cd = some (applyP L k m cd) := by
  unfold pack_Apply.f applyP
  rw [check_eq (by omega), step_eq (j := 4)]
  simp only [Option.bind_some]
  by_cases hv : Valid L
  · rw [checkE_pos hv, if_pos rfl, if_pos hv]
    unfold stepE
    by_cases hs : StepOk k m cd
    · obtain ⟨t, hst⟩ := step_st hv hs
      rw [if_pos hs, if_pos rfl, if_pos hs, check_eq (by omega), hst.live, hst.2.1]
      simp only [Option.bind_some]
      by_cases hw : Valid (doStep L k m cd).1
      · rw [checkE_pos hw, if_pos rfl, if_pos hw]
      · rw [checkE_neg hw, if_neg (by omega), if_neg hw]
    · rw [if_neg hs, if_neg (by omega), if_neg hs]
  · rw [checkE_neg hv, if_neg (by omega), if_neg hv]
end Go.Proofs.YtpldcikmlpegpaaDoor.Plain
end
section
namespace Go.Proofs.YtpldcikmlpegpaaDoor.Plain
open Go.RowKit Go.Proofs.YtpldcikmlpegpaaDoor.PB Go.Proofs.YtpldcikmlpegpaaDoor.Col Go.Proofs.YtpldcikmlpegpaaDoorW.PrintWords Go.Proofs.YtpldcikmlpegpaaDoorW.PrintMore
def Ev {α : Type} (f : Nat → Option α) (r : α) : Prop := ∃ k0, ∀ k, k0 ≤ k → f k = some r
theorem Ev.pure {α : Type} {f : Nat → Option α} {r : α} (h : ∀ k, f k = some r) : Ev f r := ⟨0, fun k _ => h k⟩
theorem Ev.from {α : Type} {f : Nat → Option α} {r : α} (k0 : Nat) (h : ∀ k, k0 ≤ k → f k = some r) : Ev f r := ⟨k0, h⟩
theorem Ev.step {α : Type} {f g : Nat → Option α} {r : α} (h : ∀ k, f (k + 1) = g k) (hg : Ev g r) : Ev f r := by
  obtain ⟨k0, hk⟩ := hg
  refine ⟨k0 + 1, fun k hle => ?_⟩
  obtain ⟨k, rfl⟩ : ∃ j, k = j + 1 := ⟨k - 1, by omega⟩
  rw [h k, hk k (by omega)]
theorem Ev.same {α : Type} {f g : Nat → Option α} {r : α} (h : ∀ k, f k = g k) (hg : Ev g r) : Ev f r := by
  obtain ⟨k0, hk⟩ := hg
  exact ⟨k0, fun k hle => by rw [h k, hk k hle]⟩
theorem Ev.bind {α β : Type} {f : Nat → Option α} {g : Nat → α → Option β} {a : α} {r : β} (hf : Ev f a) (hg : Ev (fun k => g k a) r) : Ev (fun k => (f k).bind (g k)) r := by
  obtain ⟨k0, h0⟩ := hf
  obtain ⟨k1, h1⟩ := hg
  exact ⟨max k0 k1, fun k hk => by simp only [h0 k (by omega), Option.bind_some]; exact h1 k (by omega)⟩
theorem Ev.some {α : Type} {f : Nat → Option α} {r : α} (h : Ev f r) : ∃ k, f k = Option.some r := by
  obtain ⟨k0, h0⟩ := h
  exact ⟨k0, h0 k0 (Nat.le_refl _)⟩
theorem within_eq (a b c : Int) : snowlineref02_within.f a b c = some (decide (b ≤ a ∧ a ≤ c)) := from_eq a b c
theorem layer_eq (a b c : Int) : snowlineref02_layer.f a b c = some (decide (Right ⟨a, b, c⟩)) := by
  unfold snowlineref02_layer.f
  simp only [within_eq, Option.bind_some, snowlineref02_hold.f, decide_eq_true_eq]
  by_cases h1 : 1 ≤ a ∧ a ≤ 65536
  · have ht : wrap64 (Int.tdiv a 20) = a / 20 := by rw [Int.tdiv_eq_ediv_of_nonneg (by omega), wr _ (by omega)]
    rw [if_pos h1, ht]
    by_cases h3 : 0 ≤ b ∧ b ≤ a / 20
    · rw [if_pos h3]
      by_cases h2 : 0 ≤ c ∧ c ≤ 65536
      · rw [if_pos h2]
        by_cases h4 : b = 0
        · rw [if_pos h4]; exact some_true ⟨h1.1, h1.2, h2.1, h2.2, h3.1, h3.2, .inl h4⟩
        · rw [if_neg h4]
          by_cases h5 : c = 0
          · rw [show (c == 0) = true by simp [h5]]; exact some_true ⟨h1.1, h1.2, h2.1, h2.2, h3.1, h3.2, .inr h5⟩
          · rw [show (c == 0) = false by simp [h5]]; exact some_false (fun h => h.2.2.2.2.2.2.elim h4 h5)
      · rw [if_neg h2]; exact some_false (fun h => h2 ⟨h.2.2.1, h.2.2.2.1⟩)
    · rw [if_neg h3]; exact some_false (fun h => h3 ⟨h.2.2.2.2.1, h.2.2.2.2.2.1⟩)
  · rw [if_neg h1]; exact some_false (fun h => h1 ⟨h.1, h.2.1⟩)
theorem rwater_loop (ls : List Ly) (hr : Rights ls) (hl : ls.length ≤ 128) : ∀ (d k i : Nat) (w : Int), i + d = ls.length → d < k → 0 ≤ w → w ≤ 131072 * (i : Int) →
    snowlineref02_water.l0 k ls w (i : Int) = some (w + water (ls.drop i)) := by
  intro d
  induction d with
  | zero =>
    intro k i w hi hk _ _
    obtain ⟨k, rfl⟩ : ∃ j, k = j + 1 := ⟨k - 1, by omega⟩
    unfold snowlineref02_water.l0
    rw [if_neg (by omega), List.drop_eq_nil_of_le (by omega)]
    simp [water]
  | succ d ih =>
    intro k i w hi hk h0 h1
    obtain ⟨k, rfl⟩ : ∃ j, k = j + 1 := ⟨k - 1, by omega⟩
    have hm : Right (rd_T48 ls (i : Int)) := hr _ (by
      have : rd_T48 ls (i : Int) ∈ ls.drop i := by rw [rd_drop (by omega)]; exact List.mem_cons_self
      exact List.mem_of_mem_drop this)
    obtain ⟨a, b, cc, dd, e, f, g⟩ := hm
    unfold snowlineref02_water.l0
    rw [if_pos (by omega), if_pos (by omega)]
    rw [rd_drop (show i < ls.length by omega)]
    simp only [water]
    rw [wr (w + _) (by omega), wr (w + _ + _) (by omega), wr ((i : Int) + 1) (by omega)]
    have := ih k (i + 1) (w + (rd_T48 ls (i : Int)).f0 + (rd_T48 ls (i : Int)).f1) (by omega) (by omega) (by omega) (by push_cast; omega)
    push_cast at this
    rw [this]
    congr 1
    omega
theorem rwater_eq {k : Nat} {ls : List Ly} (hr : Rights ls) (hl : ls.length ≤ 128) (hk : ls.length < k) : snowlineref02_water.f k ls = some (water ls) := by
  unfold snowlineref02_water.f
  have := rwater_loop ls hr hl ls.length k 0 0 (by omega) hk (by omega) (by omega)
  simpa using this
theorem rcold_loop (ls : List Ly) (hr : Rights ls) (hl : ls.length ≤ 128) : ∀ (d k i : Nat) (w : Int), i + d = ls.length → d < k → 0 ≤ w → w ≤ 131072 * (i : Int) →
    snowlineref02_cold.l0 k ls w (i : Int) = some (w + cold (ls.drop i)) := by
  intro d
  induction d with
  | zero =>
    intro k i w hi hk _ _
    obtain ⟨k, rfl⟩ : ∃ j, k = j + 1 := ⟨k - 1, by omega⟩
    unfold snowlineref02_cold.l0
    rw [if_neg (by omega), List.drop_eq_nil_of_le (by omega)]
    simp [cold]
  | succ d ih =>
    intro k i w hi hk h0 h1
    obtain ⟨k, rfl⟩ : ∃ j, k = j + 1 := ⟨k - 1, by omega⟩
    have hm : Right (rd_T48 ls (i : Int)) := hr _ (by
      have : rd_T48 ls (i : Int) ∈ ls.drop i := by rw [rd_drop (by omega)]; exact List.mem_cons_self
      exact List.mem_of_mem_drop this)
    obtain ⟨a, b, cc, dd, e, f, g⟩ := hm
    unfold snowlineref02_cold.l0
    rw [if_pos (by omega), if_pos (by omega)]
    rw [rd_drop (show i < ls.length by omega)]
    simp only [cold]
    rw [wr (w + _) (by omega), wr ((i : Int) + 1) (by omega)]
    have := ih k (i + 1) (w + (rd_T48 ls (i : Int)).f2) (by omega) (by omega) (by omega) (by push_cast; omega)
    push_cast at this
    rw [this]
    congr 1
    omega
theorem rcold_eq {k : Nat} {ls : List Ly} (hr : Rights ls) (hl : ls.length ≤ 128) (hk : ls.length < k) : snowlineref02_cold.f k ls = some (cold ls) := by
  unfold snowlineref02_cold.f
  have := rcold_loop ls hr hl ls.length k 0 0 (by omega) hk (by omega) (by omega)
  simpa using this
theorem rcheck_loop (ls : List Ly) (hl : ls.length ≤ 64) : ∀ (d k i : Nat), i + d = ls.length → d + 65 < k → Rights (ls.take i) →
    snowlineref02_Check.l0 k (i : Int) ls = some (checkE ls) := by
  intro d
  induction d with
  | zero =>
    intro k i hi hk h
    obtain ⟨k, rfl⟩ : ∃ j, k = j + 1 := ⟨k - 1, by omega⟩
    rw [List.take_of_length_le (by omega)] at h
    unfold snowlineref02_Check.l0
    rw [if_neg (by omega), rwater_eq h (by omega) (by omega), rcold_eq h (by omega) (by omega)]
    simp only [Option.bind_some, checkE]
    by_cases hw : water ls > 65536
    · rw [if_pos hw, if_neg (fun hv : Valid ls => by have := hv.2.2.1; omega)]
    · rw [if_neg hw]
      by_cases hc : cold ls > 65536
      · rw [if_pos hc, if_neg (fun hv : Valid ls => by have := hv.2.2.2; omega)]
      · rw [if_neg hc, if_pos (show Valid ls from ⟨hl, h, by omega, by omega⟩)]
  | succ d ih =>
    intro k i hi hk h
    obtain ⟨k, rfl⟩ : ∃ j, k = j + 1 := ⟨k - 1, by omega⟩
    unfold snowlineref02_Check.l0
    rw [if_pos (by omega), if_pos (by omega), layer_eq]
    simp only [Option.bind_some, decide_eq_true_eq]
    have hd := rd_drop (show i < ls.length by omega)
    by_cases hr : Right (rd_T48 ls (i : Int))
    · rw [if_pos (by exact hr), wr ((i : Int) + 1) (by omega)]
      have := ih k (i + 1) (by omega) (by omega) (by
        intro x hx
        rw [List.take_add_one] at hx
        rcases List.mem_append.mp hx with hx | hx
        · exact h x hx
        · have e : ls[i]?.toList = [rd_T48 ls (i : Int)] := by
            simp [rd_T48, List.getD_eq_getElem?_getD, show i < ls.length by omega]
          rw [e] at hx
          rw [List.mem_singleton.mp hx]
          exact hr)
      push_cast at this
      exact this
    · rw [if_neg (by exact hr), checkE, if_neg]
      intro hv
      exact hr (hv.2.1 _ (by
        have : rd_T48 ls (i : Int) ∈ ls.drop i := by rw [hd]; exact List.mem_cons_self
        exact List.mem_of_mem_drop this))
theorem rcheck_eq {k : Nat} (hk : 130 ≤ k) (ls : List Ly) : snowlineref02_Check.f k ls = some (checkE ls) := by
  unfold snowlineref02_Check.f
  by_cases h : (ls.length : Int) > 64
  · rw [if_pos h, checkE, if_neg (by rintro ⟨h1, _⟩; omega)]
  · rw [if_neg h]
    exact rcheck_loop ls (by omega) ls.length k 0 (by omega) (by omega) (by intro x hx; simp at hx)
theorem flow_one {L : List Ly} (h : Fits L) : flow L 1 = flow1 L := by
  have := flow_succ (m := 0) h (Int.le_refl 0)
  simp only [Int.zero_add, flow_zero, Int.add_zero] at this
  exact this
theorem rd_mid (pre : List Ly) (l : Ly) (post : List Ly) : rd_T48 (pre ++ l :: post) ((pre.length : Nat) : Int) = l := by
  show (pre ++ l :: post).getD ((pre.length : Nat) : Int).toNat z48 = l
  rw [Int.toNat_natCast]
  exact get_mid pre l post
theorem setn_mid (pre : List Ly) (l x : Ly) (post : List Ly) : (pre ++ l :: post).set ((pre.length : Nat) : Int).toNat x = pre ++ x :: post := by
  rw [Int.toNat_natCast]
  exact set_mid pre l x post
theorem flow_unit (m : Int) (r : List Ly × Int) : ∀ (L pre : List Ly) (ran n : Int), Fits L → water L ≤ 1099511627776 → cold L ≤ 1099511627776 → pre.length + L.length ≤ 1099511627776 → 0 ≤ ran → ran ≤ 1099511627776 → 0 ≤ n → n ≤ 1099511627776 →
    Ev (fun k => snowlineref02_flow.l0 k m (pre ++ (flow1 L).1) (ran + (flow1 L).2) (n + 1)) r → Ev (fun k => snowlineref02_flow.l1 k m (pre ++ L) ran n (pre.length : Int)) r := by
  intro L
  induction L with
  | nil =>
    intro pre ran n _ _ _ hp h0 h1 h2 h3 h
    simp only [List.length_nil] at hp
    refine Ev.step (g := fun k => snowlineref02_flow.j2 k m (pre ++ []) ran n (pre.length : Int)) (fun k => ?_) ?_
    · simp only [snowlineref02_flow.l1]
      rw [if_neg (by simp)]
    · refine Ev.step (fun k => ?_) h
      simp only [snowlineref02_flow.j2, flow1]
      rw [if_pos (by simp), wr _ (by omega), wr _ (by omega)]
  | cons l ls ih =>
    intro pre ran n hf hw hc hp h0 h1 h2 h3 h
    have w0 := water_nonneg hf.tail
    have c0 := cold_nonneg hf.tail
    have hlen : (pre.length : Int) < ((pre ++ l :: ls).length : Int) := by simp; omega
    simp only [water, cold, List.length_cons] at hw hc hp
    obtain ⟨a, b, c, d⟩ := hf.head
    have hh : ∀ x y, snowlineref02_hold.f l.f0 x y = some (l.f0 / 20) := fun x y => by
      unfold snowlineref02_hold.f
      rw [Int.tdiv_eq_ediv_of_nonneg a, wr _ (by omega)]
    have last : ¬ (l.f2 = 0 ∧ l.f0 / 20 ≤ l.f1) → Ev (fun k => snowlineref02_flow.j2 k m (pre ++ l :: ls) ran n (pre.length : Int)) r := by
      intro hn
      simp only [flow1, if_neg hn] at h
      by_cases h9 : 0 < l.f2
      · simp only [if_pos h9, Int.add_zero] at h
        refine Ev.step (fun k => ?_) h
        simp only [snowlineref02_flow.j2]
        rw [if_neg (by omega), if_pos (by omega), if_pos hlen]
        simp only [rd_mid, setn_mid, Option.bind_some]
        rw [if_pos h9, wr (l.f0 + 1) (by omega), wr (l.f2 - 1) (by omega), wr (n + 1) (by omega)]
      · simp only [if_neg h9, Int.add_zero] at h
        refine Ev.step (fun k => ?_) h
        simp only [snowlineref02_flow.j2]
        rw [if_neg (by omega), if_pos (by omega), if_pos hlen]
        simp only [rd_mid, setn_mid]
        rw [if_neg (by omega), wr (l.f1 + 1) (by omega), wr (n + 1) (by omega)]
    by_cases hfull : l.f2 = 0 ∧ l.f0 / 20 ≤ l.f1
    · simp only [flow1, if_pos hfull] at h
      have e : pre ++ l :: ls = (pre ++ [l]) ++ ls := by simp
      have e2 : (pre.length : Int) + 1 = ((pre ++ [l]).length : Nat) := by simp
      refine Ev.step (g := fun k => snowlineref02_flow.l1 k m ((pre ++ [l]) ++ ls) ran n (((pre ++ [l]).length : Nat) : Int)) (fun k => ?_) ?_
      · simp only [snowlineref02_flow.l1]
        rw [if_pos hlen, if_pos (by omega)]
        simp only [rd_mid, hh, Option.bind_some]
        rw [if_pos hfull.1, if_pos (show l.f1 ≥ l.f0 / 20 from hfull.2), wr _ (by omega), ← e2, e]
      · refine ih (pre ++ [l]) ran n hf.tail (by omega) (by omega) (by simp; omega) h0 h1 h2 h3 ?_
        simpa using h
    · refine Ev.step (fun k => ?_) (last hfull)
      simp only [snowlineref02_flow.l1]
      rw [if_pos hlen, if_pos (by omega)]
      simp only [rd_mid, hh, Option.bind_some]
      by_cases hz : l.f2 = 0
      · rw [if_pos hz, if_neg (by omega)]
      · rw [if_neg hz]
theorem flow1_more (L : List Ly) : water L ≤ water (flow1 L).1 := by
  induction L with
  | nil => simp [flow1]
  | cons l ls ih =>
    simp only [flow1]
    split
    · simp only [water]
      omega
    · split
      · simp only [water]; omega
      · simp only [water]; omega
theorem rflow_loop (m : Int) : ∀ (d : Nat) (L : List Ly) (ran n : Int), Fits L → water L + d ≤ 549755813888 → cold L ≤ 549755813888 → L.length ≤ 549755813888 → 0 ≤ ran → ran + d ≤ 549755813888 → 0 ≤ n → n + d = m → m ≤ 549755813888 →
    Ev (fun k => snowlineref02_flow.l0 k m L ran n) ((flow L d).1, ran + (flow L d).2) := by
  intro d
  induction d with
  | zero =>
    intro L ran n hf hw hc hl h0 h1 h2 h3 h4
    refine Ev.from 1 (fun k hk => ?_)
    obtain ⟨k, rfl⟩ : ∃ j, k = j + 1 := ⟨k - 1, by omega⟩
    simp only [snowlineref02_flow.l0]
    rw [if_neg (by omega)]
    simp [flow_zero]
  | succ d ih =>
    intro L ran n hf hw hc hl h0 h1 h2 h3 h4
    have hs := flow_succ (m := (d : Int)) hf (by omega)
    have e1 := flow_one hf
    have k1 := flow_fit (m := 1) hf (by omega)
    have k2 := flow_water L 1
    have k3 := flow_cold (m := 1) hf (by omega)
    have k4 := flow_length L 1
    rw [e1] at k1 k2 k3 k4
    have k5 := water_nonneg k1.1
    have k6 : (flow1 L).2 ≤ 1 := by
      have := k1.2
      have hw1 := flow1_more L
      omega
    have hi := ih (flow1 L).1 (ran + (flow1 L).2) (n + 1) k1.1 (by push_cast at hw h1 h3; omega) (by omega) (by omega) (by omega) (by push_cast at hw h1 h3; omega) (by omega) (by push_cast at hw h1 h3; omega) h4
    have e : ((flow L ((d + 1 : Nat) : Int)).1, ran + (flow L ((d + 1 : Nat) : Int)).2) = ((flow (flow1 L).1 d).1, ran + (flow1 L).2 + (flow (flow1 L).1 d).2) := by
      push_cast
      rw [hs]
      simp only [Int.add_assoc]
    rw [e]
    have hu := flow_unit m _ L [] ran n hf (by push_cast at hw h1 h3; omega) (by omega) (by simp; omega) h0 (by push_cast at hw h1 h3; omega) h2 (by omega) hi
    refine Ev.step (fun k => ?_) hu
    simp only [snowlineref02_flow.l0]
    rw [if_pos (by push_cast at h3; omega)]
    rfl
theorem rflow_eq {L : List Ly} {m : Int} (hf : Fits L) (hm : 0 ≤ m) (hw : water L + m ≤ 549755813888) (hc : cold L ≤ 549755813888) (hl : L.length ≤ 4096) : Ev (fun k => snowlineref02_flow.f k L m) (flow L m) := by
  have w0 := water_nonneg hf
  have := rflow_loop m m.toNat L 0 0 hf (by omega) hc (by omega) (by omega) (by omega) (by omega) (by omega) (by omega)
  rw [Int.toNat_of_nonneg hm] at this
  refine Ev.same (fun k => ?_) (by simpa using this)
  simp only [snowlineref02_flow.f, Option.bind_some, List.nil_append, List.length_nil]
  rw [if_pos (by omega)]
end Go.Proofs.YtpldcikmlpegpaaDoor.Plain
end
section
namespace Go.Proofs.YtpldcikmlpegpaaDoor.Plain
open Go.RowKit Go.Proofs.YtpldcikmlpegpaaDoor.PB Go.Proofs.YtpldcikmlpegpaaDoor.Col Go.Proofs.YtpldcikmlpegpaaDoorW.PrintWords Go.Proofs.YtpldcikmlpegpaaDoorW.PrintMore
theorem rd_zero (l : Ly) (ls : List Ly) : rd_T48 (l :: ls) 0 = l := rfl
theorem rlose_eq {l : Ly} {ls : List Ly} {more : Int} (hl : Live (l :: ls)) (hm : 0 ≤ more) (hm1 : more ≤ 1) (hw : water (l :: ls) ≤ 274877906944) (hc : cold (l :: ls) ≤ 274877906944) (hn : (l :: ls).length ≤ 4096) :
    Ev (fun k => snowlineref02_lose.f k (l :: ls) more) (lose1 l ls more) := by
  obtain ⟨⟨a, b, c, d⟩, h1⟩ := hl.head
  have w0 := water_nonneg hl.tail.fits
  have c0 := cold_nonneg hl.tail.fits
  simp only [water, cold, List.length_cons] at hw hc hn
  obtain ⟨r0, r1⟩ := lose1_rest (more := more) hl.head.1 hl.head.2 hm
  have hd : 0 ≤ l.f0 - 1 := by omega
  have hh : ∀ x y, snowlineref02_hold.f (l.f0 - 1) x y = some ((l.f0 - 1) / 20) := fun x y => by
    unfold snowlineref02_hold.f
    rw [Int.tdiv_eq_ediv_of_nonneg hd, wr _ (by omega)]
  have e1 : wrap64 (l.f0 - 1) = l.f0 - 1 := wr _ (by omega)
  have e2 : wrap64 (l.f1 + more) = l.f1 + more := wr _ (by omega)
  by_cases hz : l.f0 - 1 = 0
  · have hf := rflow_eq (m := l.f1 + more) hl.tail.fits (by omega) (by omega) (by omega) (by omega)
    have e3 : lose1 l ls more = flow ls (l.f1 + more) := by
      simp only [lose1]
      rw [if_pos hz, show l.f1 + more - min (l.f1 + more) ((l.f0 - 1) / 20) = l.f1 + more by omega]
    rw [e3]
    refine Ev.same (fun k => ?_) (Ev.bind (g := fun _ bt => some (bt.1, bt.2)) hf (Ev.pure fun _ => rfl))
    simp only [snowlineref02_lose.f, rd_zero, e1, e2, hh, Option.bind_some, List.drop_one, List.tail_cons, List.nil_append, List.length_nil, List.length_cons]
    rw [if_pos (by omega), if_pos (by omega), if_pos (by omega), if_pos hz]
  · have hf := rflow_eq (m := l.f1 + more - min (l.f1 + more) ((l.f0 - 1) / 20)) hl.tail.fits r0 (by omega) (by omega) (by omega)
    have e3 : lose1 l ls more = (⟨l.f0 - 1, min (l.f1 + more) ((l.f0 - 1) / 20), l.f2⟩ :: (flow ls (l.f1 + more - min (l.f1 + more) ((l.f0 - 1) / 20))).1, (flow ls (l.f1 + more - min (l.f1 + more) ((l.f0 - 1) / 20))).2) := by
      simp only [lose1]
      rw [if_neg hz]
    have hfl := flow_length ls (l.f1 + more - min (l.f1 + more) ((l.f0 - 1) / 20))
    rw [e3]
    refine Ev.same (fun k => ?_) (Ev.bind (g := fun _ bt => if ([(⟨l.f0 - 1, min (l.f1 + more) ((l.f0 - 1) / 20), l.f2⟩ : Ly)] : List Ly).length + bt.1.length < 5864062014805 then some ((⟨l.f0 - 1, min (l.f1 + more) ((l.f0 - 1) / 20), l.f2⟩ : Ly) :: bt.1, bt.2) else none) hf (Ev.pure fun _ => ?_))
    · simp only [snowlineref02_lose.f, rd_zero, e1, e2, hh, mn_min, Option.bind_some, List.drop_one, List.tail_cons, List.nil_append, List.length_nil, List.length_cons]
      rw [if_pos (by omega), if_pos (by omega), if_pos (by omega), if_neg hz, wr (l.f1 + more - _) (by omega)]
      rfl
    · rw [if_pos (by simp only [List.length_singleton]; omega)]
theorem rmelt_loop (m cd : Int) : ∀ (d : Nat) (L : List Ly) (ran t n : Int), Live L → water L ≤ 274877906944 → cold L ≤ 274877906944 → L.length ≤ 4096 → 0 ≤ ran → ran + water L ≤ 274877906944 → 0 ≤ n → n + d = m → m ≤ 65536 →
    Ev (fun k => snowlineref02_Do.l1 k ran t L n 3 m cd) ((times melt1 d L).1, ran + (times melt1 d L).2.1, t) := by
  have stop : ∀ (L : List Ly) (ran t n : Int), Ev (fun k => snowlineref02_Do.j3 k ran t L n false 3 m cd) (L, ran, t) := fun L ran t n => by
    refine Ev.from 1 (fun k hk => ?_)
    obtain ⟨k, rfl⟩ : ∃ j, k = j + 1 := ⟨k - 1, by omega⟩
    simp only [snowlineref02_Do.j3]
    rw [if_neg (by simp)]
  intro d
  induction d with
  | zero =>
    intro L ran t n _ _ _ _ _ _ _ hn _
    refine Ev.step (fun k => ?_) (by simpa [times] using stop L ran t n)
    simp only [snowlineref02_Do.l1]
    rw [if_neg (by omega)]
  | succ d ih =>
    intro L ran t n hl hw hc hlen h0 h1 h2 h3 h4
    cases L with
    | nil =>
      refine Ev.step (fun k => ?_) (by simpa [times] using stop [] ran t n)
      simp only [snowlineref02_Do.l1]
      rw [if_pos (by push_cast at h3; omega), if_neg (by simp)]
    | cons l ls =>
      have q1 := melt_round.live hl
      have q2 := melt_round.water hl
      have q3 := melt_round.cold hl
      have q4 := melt_round.len hl
      have q5 := water_nonneg q1.1.fits
      have hi := ih (melt1 (l :: ls)).1 (ran + (melt1 (l :: ls)).2) t (n + 1) q1.1 (by omega) (by omega) (by omega) (by omega) (by omega) (by omega) (by push_cast at h3; omega) h4
      have e : ((times melt1 (d + 1) (l :: ls)).1, ran + (times melt1 (d + 1) (l :: ls)).2.1, t) = ((times melt1 d (melt1 (l :: ls)).1).1, ran + (melt1 (l :: ls)).2 + (times melt1 d (melt1 (l :: ls)).1).2.1, t) := by
        simp only [times, Int.add_assoc]
      rw [e]
      refine Ev.step (g := fun k => snowlineref02_Do.j3 k ran t (l :: ls) n true 3 m cd) (fun k => ?_) ?_
      · simp only [snowlineref02_Do.l1]
        rw [if_pos (by push_cast at h3; omega), if_pos (by simp only [List.length_cons]; omega)]
        rfl
      · obtain ⟨⟨a, b, c, dd⟩, i1⟩ := hl.head
        have c0 := cold_nonneg hl.tail.fits
        have hc' := hc
        simp only [cold] at hc'
        by_cases h9 : 0 < l.f2
        · have em : melt1 (l :: ls) = (⟨l.f0, l.f1, l.f2 - 1⟩ :: ls, 0) := by simp only [melt1, if_pos h9]
          rw [em] at hi ⊢
          refine Ev.step (fun k => ?_) hi
          simp only [snowlineref02_Do.j3]
          rw [if_pos trivial, if_pos trivial, if_pos (by simp only [List.length_cons]; omega), if_pos (show (rd_T48 (l :: ls) 0).f2 > 0 from h9), wr (ran + 0) (by omega), wr (n + 1) (by omega)]
          show snowlineref02_Do.l1 k (ran + 0) t (⟨l.f0, l.f1, wrap64 (l.f2 - 1)⟩ :: ls) (n + 1) 3 m cd = _
          rw [wr (l.f2 - 1) (by omega)]
        · have em : melt1 (l :: ls) = lose1 l ls 1 := by simp only [melt1, if_neg h9]
          rw [em] at hi ⊢ q1 q2 q3 q4 q5
          have hlo := rlose_eq hl (show (0 : Int) ≤ 1 by omega) (by omega) hw hc hlen
          refine Ev.step (fun k => ?_) (Ev.bind (g := fun k bt => snowlineref02_Do.l1 k (wrap64 (ran + bt.2)) t bt.1 (wrap64 (n + 1)) 3 m cd) hlo ?_)
          · simp only [snowlineref02_Do.j3]
            rw [if_pos trivial, if_pos trivial, if_pos (by simp only [List.length_cons]; omega), if_neg (show ¬ (rd_T48 (l :: ls) 0).f2 > 0 from h9)]
          · rw [wr (ran + _) (by omega), wr (n + 1) (by omega)]
            exact hi
theorem rvanish_loop (kind m cd : Int) (hk : kind = 5 ∨ kind = 6) : ∀ (d : Nat) (L : List Ly) (ran t n : Int), Live L → water L ≤ 274877906944 → cold L ≤ 274877906944 → L.length ≤ 4096 → 0 ≤ ran → ran + water L ≤ 274877906944 → 0 ≤ n → n + d = m → m ≤ 65536 → 0 ≤ t → t ≤ n →
    Ev (fun k => snowlineref02_Do.l1 k ran t L n kind m cd) ((times vanish1 d L).1, ran + (times vanish1 d L).2.1, t + (times vanish1 d L).2.2) := by
  have stop : ∀ (L : List Ly) (ran t n : Int), Ev (fun k => snowlineref02_Do.j3 k ran t L n false kind m cd) (L, ran, t) := fun L ran t n => by
    refine Ev.from 1 (fun k hk => ?_)
    obtain ⟨k, rfl⟩ : ∃ j, k = j + 1 := ⟨k - 1, by omega⟩
    simp only [snowlineref02_Do.j3]
    rw [if_neg (by simp)]
  have hne : (kind != 1) = true := by rcases hk with rfl | rfl <;> rfl
  have hne3 : ¬ kind = 3 := by omega
  intro d
  induction d with
  | zero =>
    intro L ran t n _ _ _ _ _ _ _ hn _ _ _
    refine Ev.step (fun k => ?_) (by simpa [times] using stop L ran t n)
    simp only [snowlineref02_Do.l1]
    rw [if_neg (by omega)]
  | succ d ih =>
    intro L ran t n hl hw hc hlen h0 h1 h2 h3 h4 h5 h6
    cases L with
    | nil =>
      refine Ev.step (fun k => ?_) (by simpa [times] using stop [] ran t n)
      simp only [snowlineref02_Do.l1]
      rw [if_pos (by push_cast at h3; omega), if_neg (by simp)]
    | cons l ls =>
      have q1 := vanish_round.live hl
      have q2 := vanish_round.water hl
      have q3 := vanish_round.cold hl
      have q4 := vanish_round.len hl
      have q5 := water_nonneg q1.1.fits
      have hi := ih (vanish1 (l :: ls)).1 (ran + (vanish1 (l :: ls)).2) (t + 1) (n + 1) q1.1 (by omega) (by omega) (by omega) (by omega) (by omega) (by omega) (by push_cast at h3; omega) h4 (by omega) (by omega)
      have e : ((times vanish1 (d + 1) (l :: ls)).1, ran + (times vanish1 (d + 1) (l :: ls)).2.1, t + (times vanish1 (d + 1) (l :: ls)).2.2) = ((times vanish1 d (vanish1 (l :: ls)).1).1, ran + (vanish1 (l :: ls)).2 + (times vanish1 d (vanish1 (l :: ls)).1).2.1, t + 1 + (times vanish1 d (vanish1 (l :: ls)).1).2.2) := by
        simp only [times, Int.add_assoc]
      rw [e]
      refine Ev.step (g := fun k => snowlineref02_Do.j3 k ran t (l :: ls) n true kind m cd) (fun k => ?_) ?_
      · simp only [snowlineref02_Do.l1]
        rw [if_pos (by push_cast at h3; omega), if_pos (by simp only [List.length_cons]; omega), hne]
      · have em : vanish1 (l :: ls) = lose1 l ls 0 := rfl
        rw [em] at hi ⊢ q1 q2 q3 q4 q5
        have hlo := rlose_eq hl (show (0 : Int) ≤ 0 by omega) (by omega) hw hc hlen
        refine Ev.step (fun k => ?_) (Ev.bind (g := fun k bt => snowlineref02_Do.l1 k (wrap64 (ran + bt.2)) (wrap64 (t + 1)) bt.1 (wrap64 (n + 1)) kind m cd) hlo ?_)
        · simp only [snowlineref02_Do.j3]
          rw [if_pos trivial, if_neg hne3]
        · rw [wr (ran + _) (by omega), wr (n + 1) (by omega), wr (t + 1) (by omega)]
          exact hi
end Go.Proofs.YtpldcikmlpegpaaDoor.Plain
end
section
namespace Go.Proofs.YtpldcikmlpegpaaDoor.Plain
open Go.RowKit Go.Proofs.YtpldcikmlpegpaaDoor.PB Go.Proofs.YtpldcikmlpegpaaDoor.Col Go.Proofs.YtpldcikmlpegpaaDoorW.PrintWords Go.Proofs.YtpldcikmlpegpaaDoorW.PrintMore
theorem rfrost_loop : ∀ (ls pre : List Ly) (m : Int), Fits ls → 0 ≤ m → m ≤ 274877906944 → water ls ≤ 274877906944 → pre.length + ls.length ≤ 4096 →
    (∀ x xs, pre ++ (freezes ls m).1 = x :: xs → -274877906944 ≤ x.f2 ∧ x.f2 ≤ 274877906944) → 0 ≤ (freezes ls m).2 → (freezes ls m).2 ≤ 274877906944 →
    Ev (fun k => snowlineref02_Do.l0 k (pre ++ ls) m (pre.length : Int)) (chill (pre ++ (freezes ls m).1) (freezes ls m).2, 0, 0) := by
  intro ls
  induction ls with
  | nil =>
    intro pre m _ h0 h1 _ hp hx r0 r1
    simp only [freezes, List.append_nil] at hx r0 r1 ⊢
    refine Ev.from 1 (fun k hk => ?_)
    obtain ⟨k, rfl⟩ : ∃ j, k = j + 1 := ⟨k - 1, by omega⟩
    simp only [snowlineref02_Do.l0]
    rw [if_neg (by omega)]
    cases pre with
    | nil => rfl
    | cons x xs =>
      obtain ⟨b0, b1⟩ := hx x xs rfl
      rw [if_pos (by simp only [List.length_cons]; omega), if_pos (by simp only [List.length_cons]; omega)]
      show some ((⟨x.f0, x.f1, wrap64 (x.f2 + m)⟩ :: xs : List Ly), (0 : Int), (0 : Int)) = _
      rw [wr _ (by omega)]
      rfl
  | cons l ls ih =>
    intro pre m hf h0 h1 hw hp hx r0 r1
    have w0 := water_nonneg hf.tail
    simp only [water, List.length_cons] at hw hp
    obtain ⟨a, b, c, d⟩ := hf.head
    simp only [freezes] at hx r0 r1 ⊢
    have e2 : pre ++ (⟨l.f0 + min m l.f1, l.f1 - min m l.f1, l.f2⟩ : Ly) :: (freezes ls (m - min m l.f1)).1 = (pre ++ [⟨l.f0 + min m l.f1, l.f1 - min m l.f1, l.f2⟩]) ++ (freezes ls (m - min m l.f1)).1 := by simp
    rw [e2] at hx ⊢
    have hi := ih (pre ++ [⟨l.f0 + min m l.f1, l.f1 - min m l.f1, l.f2⟩]) (m - min m l.f1) hf.tail (by omega) (by omega) (by omega) (by simp; omega) hx r0 r1
    refine Ev.step (fun k => ?_) hi
    simp only [snowlineref02_Do.l0]
    rw [if_pos (by simp; omega), if_pos (by omega)]
    simp only [rd_mid, setn_mid, Option.bind_some, mn_min]
    rw [wr (l.f1 - min m l.f1) (by omega), wr (l.f0 + min m l.f1) (by omega), wr (m - min m l.f1) (by omega), wr ((pre.length : Int) + 1) (by omega)]
    have e3 : pre ++ (⟨l.f0 + min m l.f1, l.f1 - min m l.f1, l.f2⟩ : Ly) :: ls = (pre ++ [⟨l.f0 + min m l.f1, l.f1 - min m l.f1, l.f2⟩]) ++ ls := by simp
    have e4 : (pre.length : Int) + 1 = ((pre ++ [(⟨l.f0 + min m l.f1, l.f1 - min m l.f1, l.f2⟩ : Ly)]).length : Nat) := by simp
    rw [e3, e4]
def tookOf (L : List Ly) (k m : Int) : Int := if k = 5 ∨ k = 6 then (times vanish1 m.toNat L).2.2 else 0
theorem do_eq {L : List Ly} {k m cd : Int} (hv : Valid L) (hs : StepOk k m cd) : Ev (fun n => snowlineref02_Do.f n L k m cd) ((doStep L k m cd).1, (doStep L k m cd).2, tookOf L k m) := by
  obtain ⟨hk, hm, hc⟩ := hs
  obtain ⟨v0, _, v1, v2⟩ := id hv
  have hl := hv.live
  have hlen : L.length ≤ 4096 := by omega
  have w0 := water_nonneg hl.fits
  -- the loop's start, for what is neither snow that falls nor rain
  have start : ∀ {r : List Ly × Int × Int}, ¬ k = 2 → ¬ k = 4 → Ev (fun n => snowlineref02_Do.l1 n 0 0 L 0 k m cd) r → Ev (fun n => snowlineref02_Do.j0 n L 0 0 false k m cd) r := by
    intro r h2 h4 h
    refine Ev.step (fun n => ?_) h
    simp only [snowlineref02_Do.j0, Option.bind_some, List.nil_append, List.length_nil]
    rw [if_neg (by simp), if_neg h2, if_pos (by omega), if_neg h4]
  have start4 : ∀ {r : List Ly × Int × Int}, k = 4 → Ev (fun n => snowlineref02_Do.l0 n L m 0) r → Ev (fun n => snowlineref02_Do.j0 n L 0 0 false k m cd) r := by
    intro r h4 h
    refine Ev.step (fun n => ?_) h
    simp only [snowlineref02_Do.j0, Option.bind_some, List.nil_append, List.length_nil]
    rw [if_neg (by simp), if_neg (by omega), if_pos (by omega), if_pos h4]
  unfold tookOf
  by_cases k1 : k = 1
  · by_cases m0 : 0 < m
    · refine Ev.from 1 (fun n hn => ?_)
      obtain ⟨n, rfl⟩ : ∃ j, n = j + 1 := ⟨n - 1, by omega⟩
      unfold snowlineref02_Do.f doStep
      rw [if_pos k1, if_pos k1, if_pos m0, if_neg (by omega)]
      simp only [snowlineref02_Do.j0]
      rw [decide_eq_true (show m > 0 from m0), if_pos rfl]
      simp only [Option.bind_some, List.length_singleton]
      rw [if_pos (by omega)]
      rfl
    · have e : doStep L k m cd = (L, 0) := by unfold doStep; rw [if_pos k1, if_neg m0]
      rw [e, if_neg (by omega)]
      have : Ev (fun n => snowlineref02_Do.j0 n L 0 0 false k m cd) (L, 0, 0) := start (by omega) (by omega) (by
        refine Ev.from 2 (fun n hn => ?_)
        obtain ⟨n, rfl⟩ : ∃ j, n = j + 2 := ⟨n - 2, by omega⟩
        simp only [snowlineref02_Do.l1]
        rw [if_neg (by omega)]
        simp only [snowlineref02_Do.j3]
        rw [if_neg (by simp)])
      refine Ev.same (fun n => ?_) this
      unfold snowlineref02_Do.f
      rw [if_pos k1, decide_eq_false (show ¬ m > 0 from m0)]
  · have hf : ∀ n, snowlineref02_Do.f n L k m cd = snowlineref02_Do.j0 n L 0 0 false k m cd := fun n => by
      unfold snowlineref02_Do.f
      rw [if_neg k1]
    refine Ev.same hf ?_
    unfold doStep
    rw [if_neg k1]
    by_cases k2 : k = 2
    · rw [if_pos k2, if_neg (by omega)]
      refine Ev.step (fun n => ?_) (Ev.bind (g := fun _ bt => some (bt.1, bt.2, 0)) (rflow_eq hl.fits hm.1 (by omega) (by omega) hlen) (Ev.pure fun _ => rfl))
      simp only [snowlineref02_Do.j0]
      rw [if_neg (by simp), if_pos k2]
    · rw [if_neg k2]
      by_cases k3 : k = 3
      · refine start k2 (by omega) ?_
        rw [if_pos k3, if_neg (by omega), k3]
        have := rmelt_loop m cd m.toNat L 0 0 0 hl (by omega) (by omega) hlen (by omega) (by omega) (by omega) (by omega) hm.2
        simpa using this
      · rw [if_neg k3]
        by_cases k4 : k = 4
        · refine start4 k4 ?_
          rw [if_pos k4, if_neg (by omega)]
          obtain ⟨f1, f2, f3, f4, f5, f6⟩ := freezes_fit hl hm.1
          exact rfrost_loop L [] m hl.fits hm.1 (by omega) (by omega) (by simpa using hlen) (fun x xs hx => by
            have hx' : (freezes L m).1 = x :: xs := by simpa using hx
            rw [hx'] at f1 f5
            have c0 := cold_nonneg f1.tail.fits
            obtain ⟨_, _, _, d⟩ := f1.head.1
            simp only [cold] at f5
            omega) f2 (by omega)
        · refine start k2 k4 ?_
          rw [if_neg k4, if_pos (by omega)]
          have := rvanish_loop k m cd (by omega) m.toNat L 0 0 0 hl (by omega) (by omega) hlen (by omega) (by omega) (by omega) (by omega) hm.2 (by omega) (by omega)
          simpa using this
end Go.Proofs.YtpldcikmlpegpaaDoor.Plain
end
section
namespace Go.Proofs.YtpldcikmlpegpaaDoor.Plain
open Go.RowKit Go.Proofs.YtpldcikmlpegpaaDoor.PB Go.Proofs.YtpldcikmlpegpaaDoor.Col Go.Proofs.YtpldcikmlpegpaaDoorW.PrintWords Go.Proofs.YtpldcikmlpegpaaDoorW.PrintMore
def room (l : Ly) : Int := l.f2 - l.f1 + (l.f0 + l.f2) / 20
def ready : List Ly → Int
  | [] => 0
  | l :: ls => room l + ready ls
theorem room_bound {l : Ly} (h : Fit l) : 0 ≤ room l ∧ room l ≤ 2 * l.f2 + l.f0 := by
  obtain ⟨a, b, c, d⟩ := h
  unfold room
  omega
theorem ready_loop (ls : List Ly) (hr : Rights ls) (hl : ls.length ≤ 64) : ∀ (d k i : Nat) (s : Int), i + d = ls.length → d < k → 0 ≤ s → s ≤ 262144 * (i : Int) →
    pack_Ready.l0 k s ls (ls.length : Int) (i : Int) = some (s + ready (ls.drop i), 0) := by
  intro d
  induction d with
  | zero =>
    intro k i s hi hk _ _
    obtain ⟨k, rfl⟩ : ∃ j, k = j + 1 := ⟨k - 1, by omega⟩
    unfold pack_Ready.l0
    rw [if_neg (by omega), List.drop_eq_nil_of_le (by omega)]
    simp [ready]
  | succ d ih =>
    intro k i s hi hk h0 h1
    obtain ⟨k, rfl⟩ : ∃ j, k = j + 1 := ⟨k - 1, by omega⟩
    have hm : Right (rd_T48 ls (i : Int)) := hr _ (by
      have : rd_T48 ls (i : Int) ∈ ls.drop i := by rw [rd_drop (by omega)]; exact List.mem_cons_self
      exact List.mem_of_mem_drop this)
    have hrb := room_bound hm.live.1
    obtain ⟨a, b, cc, dd, e, f, g⟩ := hm
    unfold pack_Ready.l0
    rw [if_pos (by omega), if_pos (by omega), if_pos (by omega)]
    rw [rd_drop (show i < ls.length by omega)]
    simp only [ready, pack_hold.f, Option.bind_some]
    have h9 : 0 ≤ (rd_T48 ls (i : Int)).f0 + (rd_T48 ls (i : Int)).f2 := by omega
    rw [wr ((rd_T48 ls (i : Int)).f0 + _) (by omega), Int.tdiv_eq_ediv_of_nonneg h9, wr (((rd_T48 ls (i : Int)).f0 + _) / 20) (by omega), wr ((rd_T48 ls (i : Int)).f2 - _) (by omega), wr (s + _) (by omega), wr (s + _ + _) (by omega), wr ((i : Int) + 1) (by omega)]
    have := ih k (i + 1) (s + ((rd_T48 ls (i : Int)).f2 - (rd_T48 ls (i : Int)).f1) + ((rd_T48 ls (i : Int)).f0 + (rd_T48 ls (i : Int)).f2) / 20) (by omega) (by omega) (by unfold room at hrb; omega) (by unfold room at hrb; push_cast; omega)
    push_cast at this
    rw [this]
    unfold room
    congr 2
    omega
theorem ready_eq {k : Nat} (hk : 130 ≤ k) (L : List Ly) : pack_Ready.f k L = some (if Valid L then (ready L, 0) else (0, 20)) := by
  unfold pack_Ready.f
  rw [check_eq hk]
  simp only [Option.bind_some]
  by_cases hv : Valid L
  · rw [checkE_pos hv, if_pos rfl, if_pos hv]
    have := ready_loop L hv.2.1 hv.1 L.length k 0 0 (by omega) (by have := hv.1; omega) (by omega) (by omega)
    simpa using this
  · rw [checkE_neg hv, if_neg (by omega), if_neg hv]
end Go.Proofs.YtpldcikmlpegpaaDoor.Plain
end
section
namespace Go.Proofs.YtpldcikmlpegpaaDoor.Plain
open Go.RowKit Go.Proofs.YtpldcikmlpegpaaDoor.PB Go.Proofs.YtpldcikmlpegpaaDoorW.PrintWords Go.Proofs.YtpldcikmlpegpaaDoorW.PrintMore
theorem few_two (l q : List Ly) : Ev (fun k => snowlinelaw02_few.f k [(⟨l⟩ : S24), (⟨q⟩ : S24)]) (decide (l.length ≤ 70 ∧ q.length ≤ 70)) := by
  refine Ev.from 3 (fun k hk => ?_)
  obtain ⟨k, rfl⟩ : ∃ j, k = j + 3 := ⟨k - 3, by omega⟩
  unfold snowlinelaw02_few.f
  unfold snowlinelaw02_few.l0
  rw [if_pos (by simp), if_pos (by omega)]
  by_cases h : l.length ≤ 70
  · rw [if_neg (show ¬ ((rd_T24 [(⟨l⟩ : S24), (⟨q⟩ : S24)] 0).f0.length : Int) > 70 by show ¬ (l.length : Int) > 70; omega)]
    unfold snowlinelaw02_few.l0
    rw [show wrap64 (0 + 1) = 1 from wr _ (by omega), if_pos (by simp), if_pos (by omega)]
    by_cases h2 : q.length ≤ 70
    · rw [if_neg (show ¬ ((rd_T24 [(⟨l⟩ : S24), (⟨q⟩ : S24)] 1).f0.length : Int) > 70 by show ¬ (q.length : Int) > 70; omega)]
      unfold snowlinelaw02_few.l0
      rw [show wrap64 (1 + 1) = 2 from wr _ (by omega), if_neg (by simp)]
      exact some_true ⟨h, h2⟩
    · rw [if_pos (show ((rd_T24 [(⟨l⟩ : S24), (⟨q⟩ : S24)] 1).f0.length : Int) > 70 by show (q.length : Int) > 70; omega)]
      exact some_false (fun h => h2 h.2)
  · rw [if_pos (show ((rd_T24 [(⟨l⟩ : S24), (⟨q⟩ : S24)] 0).f0.length : Int) > 70 by show (l.length : Int) > 70; omega)]
    exact some_false (fun h2 => h h2.1)
end Go.Proofs.YtpldcikmlpegpaaDoor.Plain
end
section
namespace Go.Proofs.YtpldcikmlpegpaaDoor.Plain
open Go.RowKit Go.Proofs.YtpldcikmlpegpaaDoor.PB Go.Proofs.YtpldcikmlpegpaaDoor.Col Go.Proofs.YtpldcikmlpegpaaDoorW.PrintWords Go.Proofs.YtpldcikmlpegpaaDoorW.PrintMore
theorem both_eq {k : Nat} (hk : 130 ≤ k) (L Q : List Ly) : pack_both.f k L Q = some (if Valid L then checkE Q else 20) := by
  unfold pack_both.f
  rw [check_eq hk, check_eq hk]
  simp only [Option.bind_some]
  by_cases hv : Valid L
  · rw [checkE_pos hv, if_pos rfl, if_pos hv]
  · rw [checkE_neg hv, if_neg (by omega), if_neg hv]
def blown (L : List Ly) (m : Int) : List Ly × Int × Int := times vanish1 m.toNat L
theorem drift_st {L : List Ly} {m : Int} (hv : Valid L) (hm : 0 ≤ m ∧ m ≤ 65536) : St (driftC L m) (L.length + 1) (blown L m).1 (blown L m).2.1 (blown L m).2.2 := by
  obtain ⟨b1, b2⟩ := hv.bounds
  have := c_times (F := C.vanish) (d := 1) (by omega) vanish_round (fun h hl ho ht ht2 hw hc => c_vanish h hl ho ⟨ht, ht2⟩ hw hc) m.toNat (st_of L) hv.live (Int.le_refl 0) (Int.le_refl 0) (by omega) b1 b2
  unfold driftC blown
  simpa using this
def driftP (L Q : List Ly) (m : Int) : List Ly × List Ly × Int :=
  if Valid L ∧ Valid Q then (if 0 ≤ m ∧ m ≤ 65536 then (if Valid (blown L m).1 then (if (applyP Q 1 (blown L m).2.2 0).2.2 = 0 then ((blown L m).1, (applyP Q 1 (blown L m).2.2 0).1, 0) else ([], [], (applyP Q 1 (blown L m).2.2 0).2.2)) else ([], [], 2)) else ([], [], 1)) else ([], [], 20)
theorem drift_eq (L Q : List Ly) (m : Int) : pack_Drift.f L Q m = some (driftP L Q m) := by
  unfold pack_Drift.f driftP
  rw [both_eq (by omega)]
  simp only [Option.bind_some]
  by_cases hv : Valid L
  · rw [if_pos hv]
    by_cases hq : Valid Q
    · rw [checkE_pos hq, if_pos rfl, if_pos (show Valid L ∧ Valid Q from ⟨hv, hq⟩)]
      by_cases hm : 0 ≤ m ∧ m ≤ 65536
      · have hst := drift_st hv hm
        rw [if_pos hm, if_pos hm, check_eq (by omega), hst.live, hst.2.2.1]
        simp only [Option.bind_some]
        by_cases hw : Valid (blown L m).1
        · rw [checkE_pos hw, if_pos rfl, if_pos hw, apply_eq]
          simp only [Option.bind_some]
          split <;> rfl
        · rw [checkE_neg hw, if_neg (by omega), if_neg hw]
      · rw [if_neg hm, if_neg hm]
    · rw [checkE_neg hq, if_neg (by omega), if_neg (fun h : Valid L ∧ Valid Q => hq h.2)]
  · rw [if_neg hv, if_neg (by omega), if_neg (fun h : Valid L ∧ Valid Q => hv h.1)]
theorem blown_keeps {L : List Ly} {m : Int} (hv : Valid L) (hm : 0 ≤ m ∧ m ≤ 65536) : 0 ≤ (blown L m).2.1 ∧ 0 ≤ (blown L m).2.2 ∧ (blown L m).2.2 ≤ m ∧ water (blown L m).1 + (blown L m).2.1 + (blown L m).2.2 = water L := by
  obtain ⟨a1, a2, a3, a4, a5, a6, a7, a8⟩ := times_keeps vanish_round m.toNat hv.live
  unfold blown
  omega
theorem drift_bad {L Q : List Ly} {m : Int} (h : (driftP L Q m).2.2 ≠ 0) : (driftP L Q m).1 = [] ∧ (driftP L Q m).2.1 = [] := by
  unfold driftP at h ⊢
  split
  · split
    · split
      · split
        · rename_i h1 h2 h3 h4
          rw [if_pos h1, if_pos h2, if_pos h3, if_pos h4] at h
          exact absurd rfl h
        · exact ⟨rfl, rfl⟩
      · exact ⟨rfl, rfl⟩
    · exact ⟨rfl, rfl⟩
  · exact ⟨rfl, rfl⟩
theorem drift_ok {L Q : List Ly} {m : Int} (h : (driftP L Q m).2.2 = 0) : Valid L ∧ Valid Q ∧ (0 ≤ m ∧ m ≤ 65536) ∧ Valid (driftP L Q m).1 ∧ Valid (driftP L Q m).2.1 ∧ (driftP L Q m).1 = (blown L m).1 ∧ (driftP L Q m).2.1 = (doStep Q 1 (blown L m).2.2 0).1 ∧ water (driftP L Q m).2.1 = water Q + (blown L m).2.2 := by
  unfold driftP at h ⊢
  by_cases h1 : Valid L ∧ Valid Q
  · rw [if_pos h1] at h ⊢
    by_cases h2 : 0 ≤ m ∧ m ≤ 65536
    · rw [if_pos h2] at h ⊢
      by_cases h3 : Valid (blown L m).1
      · rw [if_pos h3] at h ⊢
        by_cases h4 : (applyP Q 1 (blown L m).2.2 0).2.2 = 0
        · rw [if_pos h4] at h ⊢
          obtain ⟨k1, k2, k3, k4⟩ := blown_keeps h1.1 h2
          unfold applyP at h4 ⊢
          rw [if_pos h1.2] at h4 ⊢
          have hs : StepOk 1 (blown L m).2.2 0 := ⟨by omega, by omega, by rw [if_pos rfl]; omega⟩
          rw [if_pos hs] at h4 ⊢
          by_cases h5 : Valid (doStep Q 1 (blown L m).2.2 0).1
          · rw [if_pos h5] at h4 ⊢
            refine ⟨h1.1, h1.2, h2, h3, h5, rfl, rfl, ?_⟩
            unfold doStep
            rw [if_pos rfl]
            split
            · simp only [water]; omega
            · dsimp only; omega
          · rw [if_neg h5] at h4
            exact absurd h4 (by show ¬ (2 : Int) = 0; omega)
        · rw [if_neg h4] at h
          exact absurd h h4
      · rw [if_neg h3] at h
        exact absurd h (by show ¬ (2 : Int) = 0; omega)
    · rw [if_neg h2] at h
      exact absurd h (by show ¬ (1 : Int) = 0; omega)
  · rw [if_neg h1] at h
    exact absurd h (by show ¬ (20 : Int) = 0; omega)
end Go.Proofs.YtpldcikmlpegpaaDoor.Plain
end
section
namespace Go.Proofs.YtpldcikmlpegpaaDoor.Plain
open Go.RowKit Go.Proofs.YtpldcikmlpegpaaDoor.PB Go.Proofs.YtpldcikmlpegpaaDoorW.PrintWords Go.Proofs.YtpldcikmlpegpaaDoorW.PrintMore
def Le1 (a b : Ly) : Prop := a.f0 ≤ b.f0 ∧ a.f1 ≤ b.f1 ∧ a.f2 ≤ b.f2
instance (a b : Ly) : Decidable (Le1 a b) := inferInstanceAs (Decidable (_ ∧ _))
def leAll : List Ly → List Ly → Bool
  | [], _ => true
  | _ :: _, [] => false
  | a :: xs, b :: ys => decide (Le1 a b) && leAll xs ys
def lies (p q : List Ly) : Bool := decide (p.length ≤ q.length) && leAll p (q.drop (q.length - p.length))
def lessP (p q : List Ly) : Bool × Int := if Valid p ∧ Valid q then (lies p q, 0) else (false, 20)
theorem less_loop (p q : List Ly) (more : Nat) (hm : p.length + more = q.length) (hq : q.length ≤ 64) : ∀ (d k i : Nat), i + d = p.length → d < k →
    pack_Less.l0 k (more : Int) p (p.length : Int) (i : Int) q = some (leAll (p.drop i) (q.drop (more + i)), 0) := by
  intro d
  induction d with
  | zero =>
    intro k i hi hk
    obtain ⟨k, rfl⟩ : ∃ j, k = j + 1 := ⟨k - 1, by omega⟩
    unfold pack_Less.l0
    rw [if_neg (by omega), List.drop_eq_nil_of_le (by omega)]
    rfl
  | succ d ih =>
    intro k i hi hk
    obtain ⟨k, rfl⟩ : ∃ j, k = j + 1 := ⟨k - 1, by omega⟩
    unfold pack_Less.l0
    have e1 : wrap64 ((i : Int) + (more : Int)) = ((more + i : Nat) : Int) := by rw [wr _ (by omega)]; omega
    rw [if_pos (by omega), if_pos (by omega), if_pos (by omega), e1, if_pos (by omega), if_pos (by omega)]
    rw [rd_drop (show i < p.length by omega), rd_drop (show more + i < q.length by omega)]
    have hi' := ih k (i + 1) (by omega) (by omega)
    rw [show more + (i + 1) = more + i + 1 by omega] at hi'
    push_cast at hi'
    simp only [leAll]
    generalize rd_T48 p (i : Int) = a at *
    generalize rd_T48 q ((more + i : Nat) : Int) = b at *
    by_cases h0 : a.f0 > b.f0
    · rw [if_pos h0, decide_eq_false (fun h : Le1 a b => by have := h.1; omega)]; rfl
    · rw [if_neg h0]
      by_cases h1 : a.f1 > b.f1
      · rw [if_pos h1, decide_eq_false (fun h : Le1 a b => by have := h.2.1; omega)]; rfl
      · rw [if_neg h1]
        by_cases h2 : a.f2 > b.f2
        · rw [if_pos h2, decide_eq_false (fun h : Le1 a b => by have := h.2.2; omega)]; rfl
        · rw [if_neg h2, wr ((i : Int) + 1) (by omega), hi', decide_eq_true (show Le1 a b from ⟨by omega, by omega, by omega⟩)]; rfl
theorem less_eq {k : Nat} (hk : 130 ≤ k) (p q : List Ly) : pack_Less.f k p q = some (lessP p q) := by
  unfold pack_Less.f lessP
  rw [both_eq hk]
  simp only [Option.bind_some]
  by_cases hv : Valid p
  · rw [if_pos hv]
    by_cases hq : Valid q
    · rw [checkE_pos hq, if_pos rfl, if_pos (show Valid p ∧ Valid q from ⟨hv, hq⟩)]
      have l1 := hv.1
      have l2 := hq.1
      rw [wr _ (by omega)]
      unfold lies
      by_cases hl : p.length ≤ q.length
      · rw [if_neg (by omega), decide_eq_true hl]
        have := less_loop p q (q.length - p.length) (by omega) l2 p.length k 0 (by omega) (by omega)
        rw [show (((q.length - p.length : Nat)) : Int) = (q.length : Int) - (p.length : Int) by omega] at this
        simpa using this
      · rw [if_pos (by omega), decide_eq_false hl]; rfl
    · rw [checkE_neg hq, if_neg (by omega), if_neg (fun h : Valid p ∧ Valid q => hq h.2)]
  · rw [if_neg hv, if_neg (by omega), if_neg (fun h : Valid p ∧ Valid q => hv h.1)]
end Go.Proofs.YtpldcikmlpegpaaDoor.Plain
end
section
namespace Go.Proofs.YtpldcikmlpegpaaDoor.Plain
open Go.RowKit Go.Proofs.YtpldcikmlpegpaaDoor.PB Go.Proofs.YtpldcikmlpegpaaDoorW.PrintWords Go.Proofs.YtpldcikmlpegpaaDoorW.PrintMore
def net : List Ly → Int
  | [] => 0
  | l :: ls => l.f2 - l.f1 + net ls
theorem net_app (xs ys : List Ly) : net (xs ++ ys) = net xs + net ys := by
  induction xs with
  | nil => simp [net]
  | cons x xs ih => simp only [List.cons_append, net, ih]; omega
theorem join_right {a b : Ly} (ha : Right a) (hb : Right b) (hw : a.f0 + a.f1 + b.f0 + b.f1 ≤ 65536) (hc : a.f2 + b.f2 ≤ 65536) :
    Right (joinW a b) ∧ (joinW a b).f0 + (joinW a b).f1 = a.f0 + a.f1 + b.f0 + b.f1 ∧ (joinW a b).f2 - (joinW a b).f1 = a.f2 - a.f1 + (b.f2 - b.f1) ∧ (joinW a b).f2 ≤ a.f2 + b.f2 := by
  obtain ⟨a1, a2, a3, a4, a5, a6, a7⟩ := ha
  obtain ⟨b1, b2, b3, b4, b5, b6, b7⟩ := hb
  unfold joinW Right
  simp only [mn_min]
  rw [wr (a.f0 + b.f0) (by omega), wr (a.f1 + b.f1) (by omega), wr (a.f2 + b.f2) (by omega), wr (a.f0 + b.f0 + _) (by omega), wr (a.f1 + b.f1 - _) (by omega), wr (a.f2 + b.f2 - _) (by omega)]
  omega
theorem split_at (xs : List Ly) (a : Nat) (h : a + 1 < xs.length) : xs = xs.take a ++ xs.getD a z48 :: xs.getD (a + 1) z48 :: xs.drop (a + 2) := by
  have e1 : xs.drop a = xs.getD a z48 :: xs.drop (a + 1) := by
    rw [List.drop_eq_getElem_cons (show a < xs.length by omega)]
    simp [List.getD_eq_getElem?_getD, show a < xs.length by omega]
  have e2 : xs.drop (a + 1) = xs.getD (a + 1) z48 :: xs.drop (a + 2) := by
    rw [List.drop_eq_getElem_cons h]
    simp [List.getD_eq_getElem?_getD, h]
  rw [← e2, ← e1, List.take_append_drop]
theorem once_form (xs : List Ly) (h : 2 ≤ xs.length) : ∃ a, a + 1 < xs.length ∧ joinOnce xs = xs.take a ++ joinW (xs.getD a z48) (xs.getD (a + 1) z48) :: xs.drop (a + 2) := by
  refine ⟨leastW xs (xs.length - 1) 0 0, leastW_lt xs _ 0 0 (by omega) (by omega), ?_⟩
  unfold joinOnce
  generalize ha : leastW xs (xs.length - 1) 0 0 = a
  have hlt : a + 1 < xs.length := ha ▸ leastW_lt xs _ 0 0 (by omega) (by omega)
  simp only []
  rw [List.take_add_one, List.take_set, List.drop_set_of_lt (by omega)]
  have e1 : (xs.take a).set a (joinW (xs.getD a z48) (xs.getD (a + 1) z48)) = xs.take a := List.set_eq_of_length_le (by simp; omega)
  rw [e1]
  simp [show a < xs.length by omega]
theorem once_keeps {xs : List Ly} (hv : Valid xs) (h : 2 ≤ xs.length) : Valid (joinOnce xs) ∧ (joinOnce xs).length + 1 = xs.length ∧ water (joinOnce xs) = water xs ∧ net (joinOnce xs) = net xs := by
  obtain ⟨a, ha, e⟩ := once_form xs h
  have hs := split_at xs a ha
  obtain ⟨v1, v2, v3, v4⟩ := id hv
  generalize hx : xs.getD a z48 = x at e hs
  generalize hy : xs.getD (a + 1) z48 = y at e hs
  generalize hp : xs.take a = p at e hs
  generalize hq : xs.drop (a + 2) = q at e hs
  have rp : Rights p := fun z hz => v2 z (by rw [hs]; simp [hz])
  have rq : Rights q := fun z hz => v2 z (by rw [hs]; simp [hz])
  have rx : Right x := v2 x (by rw [hs]; simp)
  have ry : Right y := v2 y (by rw [hs]; simp)
  have wp := water_nonneg rp.live.fits
  have wq := water_nonneg rq.live.fits
  have cp := cold_nonneg rp.live.fits
  have cq := cold_nonneg rq.live.fits
  have e1 : water xs = water p + (x.f0 + x.f1 + (y.f0 + y.f1 + water q)) := by rw [hs, water_app]; rfl
  have e2 : cold xs = cold p + (x.f2 + (y.f2 + cold q)) := by rw [hs, cold_app]; rfl
  have e3 : net xs = net p + (x.f2 - x.f1 + (y.f2 - y.f1 + net q)) := by rw [hs, net_app]; rfl
  have e4 : xs.length = p.length + (q.length + 2) := by rw [hs]; simp
  obtain ⟨j1, j2, j3, j4⟩ := join_right rx ry (by omega) (by omega)
  have f1 : water (joinOnce xs) = water p + ((joinW x y).f0 + (joinW x y).f1 + water q) := by rw [e, water_app]; rfl
  have f2 : cold (joinOnce xs) = cold p + ((joinW x y).f2 + cold q) := by rw [e, cold_app]; rfl
  have f3 : net (joinOnce xs) = net p + ((joinW x y).f2 - (joinW x y).f1 + net q) := by rw [e, net_app]; rfl
  have f4 : (joinOnce xs).length = p.length + (q.length + 1) := by rw [e]; simp
  refine ⟨⟨by omega, ?_, by omega, by omega⟩, by omega, by omega, by omega⟩
  intro z hz
  rw [e] at hz
  rcases List.mem_append.mp hz with hz | hz
  · exact rp z hz
  · rcases List.mem_cons.mp hz with rfl | hz
    · exact j1
    · exact rq z hz
def joinTo (n : Int) (xs : List Ly) : List Ly := joinsW n xs.length xs
theorem joinTo_few {n : Int} {xs : List Ly} (h : ¬ n < (xs.length : Int)) : joinTo n xs = xs := by
  unfold joinTo
  cases hx : xs.length with
  | zero => rfl
  | succ k =>
    simp only [joinsW]
    rw [if_neg h]
theorem joinTo_more {n : Int} {xs : List Ly} (hv : Valid xs) (hn : 1 ≤ n) (h : n < (xs.length : Int)) : joinTo n xs = joinTo n (joinOnce xs) := by
  have hk := once_keeps hv (by omega)
  unfold joinTo
  rw [← hk.2.1]
  simp only [joinsW]
  rw [if_pos h]
theorem joinTo_keeps {n : Int} (hn : 1 ≤ n) : ∀ (k : Nat) {xs : List Ly}, xs.length = k → Valid xs → Valid (joinTo n xs) ∧ water (joinTo n xs) = water xs ∧ net (joinTo n xs) = net xs ∧ (((joinTo n xs).length : Nat) : Int) = min n (xs.length : Int) := by
  intro k
  induction k with
  | zero =>
    intro xs hx hv
    rw [joinTo_few (by omega)]
    exact ⟨hv, rfl, rfl, by omega⟩
  | succ k ih =>
    intro xs hx hv
    by_cases h : n < (xs.length : Int)
    · obtain ⟨h1, h2, h3, h4⟩ := once_keeps hv (by omega)
      obtain ⟨i1, i2, i3, i4⟩ := ih (xs := joinOnce xs) (by omega) h1
      rw [joinTo_more hv hn h]
      exact ⟨i1, by omega, by omega, by omega⟩
    · rw [joinTo_few h]
      exact ⟨hv, rfl, rfl, by omega⟩
def joinedP (l : List Ly) (n : Int) : List Ly × Int := if Valid l then (if 1 ≤ n ∧ n ≤ 64 then (joinTo n l, 0) else ([], 1)) else ([], 20)
theorem joined_eq (l : List Ly) (n : Int) : pack_Joined.f l n = some (joinedP l n) := by
  unfold pack_Joined.f joinedP
  rw [check_eq (by omega)]
  simp only [Option.bind_some]
  by_cases hv : Valid l
  · rw [checkE_pos hv, if_pos rfl, if_pos hv]
    by_cases hn : 1 ≤ n ∧ n ≤ 64
    · rw [if_pos hn, if_pos hn]
      rfl
    · rw [if_neg hn, if_neg hn]
  · rw [checkE_neg hv, if_neg (by omega), if_neg hv]
end Go.Proofs.YtpldcikmlpegpaaDoor.Plain
end
