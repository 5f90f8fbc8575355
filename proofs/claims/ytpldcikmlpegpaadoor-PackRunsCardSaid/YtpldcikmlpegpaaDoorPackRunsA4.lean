/-
A part of the proof of this: The tied card of the law PackRuns of snowlinelaw02 holds: it answers true for every pack and every list of steps, and changes nothing.
-/
import Derived.Deep.RegionLaw
import Derived.Lib.SliceRun
import Derived.Outline
import Derived.Deep.DeepCutAuto
import Derived.IntWalk
import Derived.Test.YtpldcikmlpegpaaDoorPackRunsA1
import Derived.Test.YtpldcikmlpegpaaDoorPackRunsA2
import Derived.Test.YtpldcikmlpegpaaDoorPackRunsA3
section
namespace Go.Proofs.YtpldcikmlpegpaaDoor.PB
open Go.RowKit Go.Proofs.YtpldcikmlpegpaaDoorW.PrintWords Go.Proofs.YtpldcikmlpegpaaDoorW.PrintLast Go.Proofs.YtpldcikmlpegpaaDoorW.PrintMore
attribute [local go_sem] max2_int min2_int max_two min_two max_three min_three max_four min_four   -- for this text's walks alone
set_option linter.unusedVariables false
set_option linter.unusedSimpArgs false
def pack_Steepest.l0 : Nat → Int → List (S48) → Option (Int × Int)
  | 0, _, _ => none
  | k + 1, x5, x142000 => if x5 > 0 then ((pack_breaks.f x142000 x5).bind fun t143 => (if t143 = true then (pack_Steepest.l0 k (wrap64 (x5 - 1)) x142000) else (some (x5, 0)))) else (some (x5, 0))
def pack_Steepest.f (k : Nat) (l0_0 : List (S48)) : Option (Int × Int) := (pack_Check.f k l0_0).bind fun t142 => (if t142 = 0 then (pack_Steepest.l0 k 60 l0_0) else (some (0, t142)))
set_option maxHeartbeats 8000000 in
set_option maxRecDepth 100000 in
theorem pack_Steepest.calls (k : Nat) (A0_0 : Option Addr) (c0_0 : Nat) (l0_0 : List (S48)) (r1 : Int) (r2 : Int) (w : World) (hr0_0 : Kd.C k48 w A0_0 l0_0.length l0_0) (hc0_0 : l0_0.length ≤ c0_0) (h : pack_Steepest.f k l0_0 = some (r1, r2)) :
    Calls Tryd.prog 37 #[.agg #[.slice A0_0 l0_0.length c0_0]] w fun e w' => e = .returned (.tuple #[.int .i64 r1, .int .i64 r2]) ∧ Below w.heap.size w w' := by
  have hu24 := Tryd.underlying24
  have HR0_0 := Aside0.mk hr0_0
  have HC0_0 := Aside0.mk hc0_0
  clear hr0_0 hc0_0
  have HB := Aside0.mk (Below.refl w.heap.size w)
  have H : ((pack_Check.f k l0_0).bind fun t142 => (if t142 = 0 then (pack_Steepest.l0 k 60 l0_0) else (some (0, t142)))) = some (r1, r2) := h
  clear h
  replace H := Option.bind_eq_some_iff.mp H
  obtain ⟨t142, A20, H⟩ := H
  replace H : (if t142 = 0 then (pack_Steepest.l0 k 60 l0_0) else (some (0, t142))) = some (r1, r2) := H
  have A2 := Aside0.mk A20
  clear A20
  by_cases c3 : t142 = 0
  · rw [if_pos c3] at H
    have c3b0 : (t142 == 0) = true := beq_iff_eq.mpr c3
    have c3b1 : (t142 != 0) = false := bne_eq_false_iff_eq.mpr c3
    clear c3
    have H' := Aside0.mk H
    clear H
    go_enter Tryd.func37, Tryd.ntmps37
    go_wp2_with (first | ((with_reducible refine gate_dst (N := 1) rfl ?_); refine box_event ?hg (N := 1) ?hd (cs := #[.slice A0_0 l0_0.length c0_0]) (t := 24) ?hr ?_; (case hd => rfl); (case hg => rfl); (case hr => first | (go_simp; done) | (go_simp; rfl)); intro gb141 hg w4 hbox hb; have n0_ := Aside0.mk (below_step (by repeat (first | (with_reducible first | exact HB.out | apply below_alloc | apply pw_below_drewN | apply below_drew1) | exact HB.out)) hb); have n1_ := Aside0.mk (hbox); have n2_ := Aside0.mk ((by rw [hg]; exact (below_size (by repeat (first | (with_reducible first | exact HB.out | apply below_alloc | apply pw_below_drewN | apply below_drew1) | exact HB.out))) : w.heap.size ≤ gb141)); have n3_ := Aside0.mk ((by rw [hg]; exact (below_size (by repeat (first | (with_reducible first | exact HB.out | apply below_alloc | apply pw_below_drewN | apply below_drew1) | exact HB.out))) : w.heap.size ≤ gb141)); clear HB; have HB := n0_; have BK141 := n1_; have GW141 := n2_; have GE141 := n3_; clear n0_ n1_ n2_ n3_; clear hb hbox hg; have hcz5_0 : w4.cell? ⟨gb141, 0, none⟩ = some (.slice A0_0 l0_0.length c0_0) := (blk_cell BK141.out 0).trans rfl; have hfz5_0 := blk_frozen BK141.out 0) | ((with_reducible refine gate_callee (f := 25) rfl ?_); refine goesL_ (some 7) rfl rfl Tryd.func25 (by kernel_rfl) rfl #[.agg #[.slice A0_0 l0_0.length c0_0]] rfl (by (try simp only [List.map_toArray, List.map_cons, List.map_nil]); first | done | rfl | (simp only [List.length_drop, List.length_take]; rfl)) ?_; (with_reducible refine (pack_Check.calls k _ _ l0_0 t142 _ ?side1 ?side2 A2.out).mono ?_); (case side1 => repeat (first | exact (Kd.C_below HR0_0.out HB.out) | (with_reducible refine Kd.C_alloc ?_ _) | (with_reducible refine Kd.C_drewN ?_ _) | (with_reducible refine Kd.C_drew ?_))); (case side2 => exact HC0_0.out); rintro e w6 ⟨rfl, hb⟩; refine ⟨_, rfl, ?_⟩; have n0_ := Aside0.mk (blk_below (g := gb141) (o := .cells #[.slice A0_0 l0_0.length c0_0] 24 (0, 0)) (by (with_reducible repeat (first | refine blk_drewN ?_ _ | refine blk_drew ?_ | refine blk_alloc ?_ _)); exact BK141.out) hb); have n1_ := Aside0.mk (below_step (by repeat (first | (with_reducible first | exact HB.out | apply below_alloc | apply pw_below_drewN | apply below_drew1 | refine below_set ?_ GE141.out) | exact HB.out)) hb); clear BK141; clear HB; have BK141 := n0_; have HB := n1_; clear n0_ n1_; (try clear hb); (try clear hb2); (try clear hk); (try clear hi)))
    go_loopg [5] k (fun kq v5 w' => ∃ (x5_1 : Int), v5 = .int .i64 x5_1 ∧ Aside0 (pack_Steepest.l0 kq x5_1 l0_0 = some (r1, r2)) ∧ Aside0 (kq ≤ k) ∧ Aside0 (w'.heap[gb141]? = some (.cells #[(.slice A0_0 l0_0.length c0_0)] 24 (0, 0))) ∧ Aside0 (Below w.heap.size w w'))
    case atStart => exact ⟨(60), (by first | rfl | (simp; done) | (simp [*]; done)), H', ⟨Nat.le_refl _⟩, ⟨by (with_reducible repeat (first | refine blk_drewN ?_ _ | refine blk_drew ?_ | refine blk_alloc ?_ _)); exact BK141.out⟩, ⟨by repeat (first | (with_reducible first | exact HB.out | apply below_alloc | apply pw_below_drewN | apply below_drew1 | refine below_set ?_ GE141.out) | exact HB.out)⟩⟩
    case round =>
      clear H'
      try clear c2
      try clear p2
      try clear c3
      try clear c3b0
      try clear c3b1
      try clear hcz5_0
      try clear hfz5_0
      obtain ⟨x5_1, rfl, HA, HK1, BK141, HB⟩ := hrel
      cases gk with
      | zero => exact absurd HA.out (by simp [pack_Steepest.l0])
      | succ k1 =>
        have H := HA.out
        clear HA
        simp only [pack_Steepest.l0] at H
        by_cases c7 : x5_1 > 0
        · rw [if_pos c7] at H
          have c7b0 : decide (0 < x5_1) = true := decide_eq_true c7
          clear c7
          replace H := Option.bind_eq_some_iff.mp H
          obtain ⟨t143, A80, H⟩ := H
          replace H : (if t143 = true then (pack_Steepest.l0 k1 (wrap64 (x5_1 - 1)) l0_0) else (some (x5_1, 0))) = some (r1, r2) := H
          have A8 := Aside0.mk A80
          clear A80
          by_cases c9 : t143 = true
          · subst c9
            have H1 : (pack_Steepest.l0 k1 (wrap64 (x5_1 - 1)) l0_0) = some (r1, r2) := by rw [if_pos rfl] at H; exact H
            clear H
            have H := H1
            clear H1
            have H' := Aside0.mk H
            clear H
            have hcz10_0 : wr.cell? ⟨gb141, 0, none⟩ = some (.slice A0_0 l0_0.length c0_0) := (blk_cell BK141.out 0).trans rfl
            have hfz10_0 := blk_frozen BK141.out 0
            go_wp2_with (first | (go_at_call 79; (with_reducible refine (pack_breaks.calls _ _ l0_0 x5_1 true _ ?side1 ?side2 A8.out).mono ?_); (case side1 => repeat (first | exact (Kd.C_below HR0_0.out HB.out) | (with_reducible refine Kd.C_alloc ?_ _) | (with_reducible refine Kd.C_drewN ?_ _) | (with_reducible refine Kd.C_drew ?_))); (case side2 => exact HC0_0.out); rintro e w11 ⟨rfl, hb⟩; have n0_ := Aside0.mk (blk_below (g := gb141) (o := .cells #[.slice A0_0 l0_0.length c0_0] 24 (0, 0)) (by (with_reducible repeat (first | refine blk_drewN ?_ _ | refine blk_drew ?_ | refine blk_alloc ?_ _)); exact BK141.out) hb); have n1_ := Aside0.mk (below_step (by repeat (first | (with_reducible first | exact HB.out | apply below_alloc | apply pw_below_drewN | apply below_drew1 | refine below_set ?_ GE141.out) | exact HB.out)) hb); clear BK141; clear HB; have BK141 := n0_; have HB := n1_; clear n0_ n1_; (try clear hb); (try clear hb2); (try clear hk); (try clear hi)))
            go_roundg k1
            case measure => have := HK1.out; omega
            case rel => exact ⟨(wrap64 (x5_1 - 1)), (by first | rfl | (simp; done) | (simp [*]; done)), H', ⟨by have := HK1.out; omega⟩, ⟨by (with_reducible repeat (first | refine blk_drewN ?_ _ | refine blk_drew ?_ | refine blk_alloc ?_ _)); exact BK141.out⟩, ⟨by repeat (first | (with_reducible first | exact HB.out | apply below_alloc | apply pw_below_drewN | apply below_drew1 | refine below_set ?_ GE141.out) | exact HB.out)⟩⟩
          · replace c9 := Bool.eq_false_iff.mpr c9
            subst c9
            have H1 : (some (x5_1, 0)) = some (r1, r2) := by rw [if_neg (show ¬ (false = true) by decide)] at H; exact H
            clear H
            have H := H1
            clear H1
            simp only [Option.some.injEq, Prod.mk.injEq] at H
            obtain ⟨rfl, rfl⟩ := H
            have hcz12_0 : wr.cell? ⟨gb141, 0, none⟩ = some (.slice A0_0 l0_0.length c0_0) := (blk_cell BK141.out 0).trans rfl
            have hfz12_0 := blk_frozen BK141.out 0
            go_wp2_with (first | (go_at_call 79; (with_reducible refine (pack_breaks.calls _ _ l0_0 x5_1 false _ ?side1 ?side2 A8.out).mono ?_); (case side1 => repeat (first | exact (Kd.C_below HR0_0.out HB.out) | (with_reducible refine Kd.C_alloc ?_ _) | (with_reducible refine Kd.C_drewN ?_ _) | (with_reducible refine Kd.C_drew ?_))); (case side2 => exact HC0_0.out); rintro e w13 ⟨rfl, hb⟩; have n0_ := Aside0.mk (blk_below (g := gb141) (o := .cells #[.slice A0_0 l0_0.length c0_0] 24 (0, 0)) (by (with_reducible repeat (first | refine blk_drewN ?_ _ | refine blk_drew ?_ | refine blk_alloc ?_ _)); exact BK141.out) hb); have n1_ := Aside0.mk (below_step (by repeat (first | (with_reducible first | exact HB.out | apply below_alloc | apply pw_below_drewN | apply below_drew1 | refine below_set ?_ GE141.out) | exact HB.out)) hb); clear BK141; clear HB; have BK141 := n0_; have HB := n1_; clear n0_ n1_; (try clear hb); (try clear hb2); (try clear hk); (try clear hi)))
            go_ret2
            exact ⟨by first | rfl | (simp [errW_none, errW_some] <;> rfl) | (simp [*, errW_none, errW_some] <;> rfl), by repeat (first | (with_reducible first | exact HB.out | apply below_alloc | apply pw_below_drewN | apply below_drew1 | refine below_set ?_ GE141.out) | exact HB.out)⟩
        · rw [if_neg c7] at H
          have c7b0 : decide (0 < x5_1) = false := decide_eq_false c7
          clear c7
          simp only [Option.some.injEq, Prod.mk.injEq] at H
          obtain ⟨rfl, rfl⟩ := H
          go_wp2
          go_ret2
          exact ⟨by first | rfl | (simp [errW_none, errW_some] <;> rfl) | (simp [*, errW_none, errW_some] <;> rfl), by repeat (first | (with_reducible first | exact HB.out | apply below_alloc | apply pw_below_drewN | apply below_drew1 | refine below_set ?_ GE141.out) | exact HB.out)⟩
  · rw [if_neg c3] at H
    have c3b0 : (t142 == 0) = false := beq_eq_false_iff_ne.mpr c3
    have c3b1 : (t142 != 0) = true := bne_iff_ne.mpr c3
    simp only [Option.some.injEq, Prod.mk.injEq] at H
    obtain ⟨rfl, rfl⟩ := H
    go_enter Tryd.func37, Tryd.ntmps37
    go_wp2_with (first | ((with_reducible refine gate_dst (N := 1) rfl ?_); refine box_event ?hg (N := 1) ?hd (cs := #[.slice A0_0 l0_0.length c0_0]) (t := 24) ?hr ?_; (case hd => rfl); (case hg => rfl); (case hr => first | (go_simp; done) | (go_simp; rfl)); intro gb141 hg w14 hbox hb; have n0_ := Aside0.mk (below_step (by repeat (first | (with_reducible first | exact HB.out | apply below_alloc | apply pw_below_drewN | apply below_drew1) | exact HB.out)) hb); have n1_ := Aside0.mk (hbox); have n2_ := Aside0.mk ((by rw [hg]; exact (below_size (by repeat (first | (with_reducible first | exact HB.out | apply below_alloc | apply pw_below_drewN | apply below_drew1) | exact HB.out))) : w.heap.size ≤ gb141)); have n3_ := Aside0.mk ((by rw [hg]; exact (below_size (by repeat (first | (with_reducible first | exact HB.out | apply below_alloc | apply pw_below_drewN | apply below_drew1) | exact HB.out))) : w.heap.size ≤ gb141)); clear HB; have HB := n0_; have BK141 := n1_; have GW141 := n2_; have GE141 := n3_; clear n0_ n1_ n2_ n3_; clear hb hbox hg; have hcz15_0 : w14.cell? ⟨gb141, 0, none⟩ = some (.slice A0_0 l0_0.length c0_0) := (blk_cell BK141.out 0).trans rfl; have hfz15_0 := blk_frozen BK141.out 0) | ((with_reducible refine gate_callee (f := 25) rfl ?_); refine goesL_ (some 7) rfl rfl Tryd.func25 (by kernel_rfl) rfl #[.agg #[.slice A0_0 l0_0.length c0_0]] rfl (by (try simp only [List.map_toArray, List.map_cons, List.map_nil]); first | done | rfl | (simp only [List.length_drop, List.length_take]; rfl)) ?_; (with_reducible refine (pack_Check.calls k _ _ l0_0 t142 _ ?side1 ?side2 A2.out).mono ?_); (case side1 => repeat (first | exact (Kd.C_below HR0_0.out HB.out) | (with_reducible refine Kd.C_alloc ?_ _) | (with_reducible refine Kd.C_drewN ?_ _) | (with_reducible refine Kd.C_drew ?_))); (case side2 => exact HC0_0.out); rintro e w16 ⟨rfl, hb⟩; refine ⟨_, rfl, ?_⟩; have n0_ := Aside0.mk (blk_below (g := gb141) (o := .cells #[.slice A0_0 l0_0.length c0_0] 24 (0, 0)) (by (with_reducible repeat (first | refine blk_drewN ?_ _ | refine blk_drew ?_ | refine blk_alloc ?_ _)); exact BK141.out) hb); have n1_ := Aside0.mk (below_step (by repeat (first | (with_reducible first | exact HB.out | apply below_alloc | apply pw_below_drewN | apply below_drew1 | refine below_set ?_ GE141.out) | exact HB.out)) hb); clear BK141; clear HB; have BK141 := n0_; have HB := n1_; clear n0_ n1_; (try clear hb); (try clear hb2); (try clear hk); (try clear hi)))
    go_ret2
    exact ⟨by first | rfl | (simp [errW_none, errW_some] <;> rfl) | (simp [*, errW_none, errW_some] <;> rfl), by repeat (first | (with_reducible first | exact HB.out | apply below_alloc | apply pw_below_drewN | apply below_drew1 | refine below_set ?_ GE141.out) | exact HB.out)⟩
def snowlinelaw02_example.f  : Option ((List (S48))) := some (([(⟨40, 2, 0⟩ : S48), (⟨100, 0, 5⟩ : S48)] : List (S48)))
set_option maxHeartbeats 8000000 in
set_option maxRecDepth 100000 in
theorem snowlinelaw02_example.calls  (r : List (S48)) (w : World) (h : snowlinelaw02_example.f  = some r) :
    Calls Tryd.prog 57 #[] w fun e w' => ∃ v0_ : Value, e = .returned (.agg #[v0_]) ∧ Kd.R k48 48 w' w.heap.size (fun _ => True) v0_ r ∧ Below w.heap.size w w' := by
  have hu24 := Tryd.underlying24
  have hu48 := Tryd.underlying48
  have HB := Aside0.mk (Below.refl w.heap.size w)
  have H : (some (([(⟨40, 2, 0⟩ : S48), (⟨100, 0, 5⟩ : S48)] : List (S48)))) = some r := h
  clear h
  obtain ⟨y145, hy145⟩ : ∃ y_ : List (S48), y_ = (([(⟨40, 2, 0⟩ : S48), (⟨100, 0, 5⟩ : S48)] : List (S48))) := ⟨_, rfl⟩
  replace H : (some y145) = some r := by first | (rw [hy145]; with_reducible exact H) | (have H2_ := (Option.bind_some _ _).symm.trans H; rw [hy145]; with_reducible exact H2_) | (have H2_ := (Option.bind_some _ _).symm.trans H; with_reducible exact H2_) | with_reducible exact H | (rw [hy145]; exact H) | exact H
  have Ny145 := Aside0.mk hy145
  clear hy145
  obtain rfl := Option.some.inj H
  go_enter Tryd.func57, Tryd.ntmps57
  go_wp2_with (first | ((with_reducible refine gate_dst (N := 0) rfl ?_); refine box_event ?hg (N := 0) ?hd (cs := #[.slice none 0 0]) (t := 24) ?hr ?_; (case hd => rfl); (case hg => rfl); (case hr => first | (go_simp; done) | (go_simp; rfl)); intro gb144 hg w1 hbox hb; have n0_ := Aside0.mk (below_step (by repeat (first | (with_reducible first | exact HB.out | apply below_alloc | apply pw_below_drewN | apply below_drew1) | exact HB.out)) hb); have n1_ := Aside0.mk (hbox); have n2_ := Aside0.mk ((by rw [hg]; exact (below_size (by repeat (first | (with_reducible first | exact HB.out | apply below_alloc | apply pw_below_drewN | apply below_drew1) | exact HB.out))) : w.heap.size ≤ gb144)); have n3_ := Aside0.mk ((by rw [hg]; exact (below_size (by repeat (first | (with_reducible first | exact HB.out | apply below_alloc | apply pw_below_drewN | apply below_drew1) | exact HB.out))) : w.heap.size ≤ gb144)); clear HB; have HB := n0_; have BK144 := n1_; have GW144 := n2_; have GE144 := n3_; clear n0_ n1_ n2_ n3_; clear hb hbox hg) | ((with_reducible refine gate_dst (N := 3) rfl ?_); refine Kd.R_lit k48 _ 48 ?hg (N := 3) ?hd (xs := ([(⟨40, 2, 0⟩ : S48), (⟨100, 0, 5⟩ : S48)] : List (S48))) (inner := [.int .i64 40, .int .i64 2, .int .i64 0, .int .i64 100, .int .i64 0, .int .i64 5]) (ok := fun _ => True) (okp := fun _ => True) ?hr ?hp (fun _ hk => hk) trivial (Below.refl _ _) (Nat.le_refl _) (by simp) ?_; (case hd => rfl); (case hg => rfl); (case hr => first | (go_simp; done) | (go_simp; rfl)); (case hp => exact (Reps.c3 (show Kd.M k48 _ _ _ (⟨40, 2, 0⟩ : S48) [.int .i64 40, .int .i64 2, .int .i64 0] from (k48_mkM _ _ _ (⟨40, 2, 0⟩ : S48) )) (Reps.c3 (show Kd.M k48 _ _ _ (⟨100, 0, 5⟩ : S48) [.int .i64 100, .int .i64 0, .int .i64 5] from (k48_mkM _ _ _ (⟨100, 0, 5⟩ : S48) )) (Reps.none _ _)))); intro v146 w2 ho3 hb hg_ hnew_; clear hg_ hnew_; (first | rw [← Ny145.out] at ho3 | (simp only [Int.reduceToNat] at ho3; rw [← Ny145.out] at ho3)); have n0_ := Aside0.mk (Kd.R_lower ho3 (below_size (by repeat (first | (with_reducible first | exact HB.out | apply below_alloc | apply pw_below_drewN | apply below_drew1 | refine below_set ?_ GE144.out) | exact HB.out)))); have n1_ := Aside0.mk (blk_below (g := gb144) (o := .cells #[.slice none 0 0] 24 (0, 0)) (by (with_reducible repeat (first | refine blk_drewN ?_ _ | refine blk_drew ?_ | refine blk_alloc ?_ _)); exact BK144.out) hb); have n2_ := Aside0.mk (below_step (by repeat (first | (with_reducible first | exact HB.out | apply below_alloc | apply pw_below_drewN | apply below_drew1 | refine below_set ?_ GE144.out) | exact HB.out)) hb); clear BK144; clear HB; have HO147 := n0_; have BK144 := n1_; have HB := n2_; clear n0_ n1_ n2_; clear hb ho3; obtain ⟨Ao4, co4, eo4⟩ := Kd.R_slice HO147.out; subst eo4; have hcz5_0 : w2.cell? ⟨gb144, 0, none⟩ = some (.slice none 0 0) := (blk_cell BK144.out 0).trans rfl; have hfz5_0 := blk_frozen BK144.out 0))
  refine bodyPost_ret (results_cell_row rfl _ _ gb144 24 #[.slice Ao4 y145.length co4] (0, 0) _ rfl (by (with_reducible repeat (first | refine blk_drewN ?_ _ | refine blk_drew ?_ | refine blk_alloc ?_ _)); refine blk_put (cs := #[.slice none 0 0]) ?_ 0 _ rfl; (with_reducible repeat (first | refine blk_drewN ?_ _ | refine blk_drew ?_ | refine blk_alloc ?_ _)); exact BK144.out) Tryd.underlying24 rfl (by kernel_rfl)) rfl ?_
  exact ⟨_, by first | rfl | (simp [errW_none, errW_some] <;> rfl) | (simp [*, errW_none, errW_some] <;> rfl), by (with_reducible repeat (first | apply Kd.R_alloc | apply Kd.R_drewN | apply Kd.R_drew)); exact Kd.R_mono (Kd.R_far (p := ⟨gb144, 0, none⟩) (Kd.R_types HO147.out BK144.out (by decide)) (fun _ hk => hk.2) (.slice Ao4 y145.length co4)) (fun _ hk => trivial), by repeat (first | (with_reducible first | exact HB.out | apply below_alloc | apply pw_below_drewN | apply below_drew1 | refine below_set ?_ GE144.out) | exact HB.out)⟩
end Go.Proofs.YtpldcikmlpegpaaDoor.PB
end
section
namespace Go.Proofs.YtpldcikmlpegpaaDoor.PB
open Go.RowKit Go.Proofs.YtpldcikmlpegpaaDoorW.PrintWords Go.Proofs.YtpldcikmlpegpaaDoorW.PrintLast Go.Proofs.YtpldcikmlpegpaaDoorW.PrintMore
attribute [local go_sem] max2_int min2_int max_two min_two max_three min_three max_four min_four   -- for this text's walks alone
set_option linter.unusedVariables false
set_option linter.unusedSimpArgs false
def pack_Print.l0 : Nat → List ByteArray → List (S48) → Int → Int → Option (ByteArray × Int)
  | 0, _, _, _, _ => none
  | k + 1, x5, x15, x16, x17 => if x17 < x16 then (if 0 ≤ x17 then (if x17 < (x15.length : Int) then ((strconv_Itoa.f ((rd_T48 x15 x17).f0)).bind fun t155 => (if t155.size + 1 ≤ 9223372036854775807 then ((strconv_Itoa.f ((rd_T48 x15 x17).f1)).bind fun t156 => (if (t155 ++ (⟨#[47]⟩ : ByteArray)).size + t156.size ≤ 9223372036854775807 then (if ((t155 ++ (⟨#[47]⟩ : ByteArray)) ++ t156).size + 1 ≤ 9223372036854775807 then ((strconv_Itoa.f ((rd_T48 x15 x17).f2)).bind fun t157 => (if (((t155 ++ (⟨#[47]⟩ : ByteArray)) ++ t156) ++ (⟨#[47]⟩ : ByteArray)).size + t157.size ≤ 9223372036854775807 then (if x5.length < 8796093022208 then (pack_Print.l0 k (x5 ++ [(((t155 ++ (⟨#[47]⟩ : ByteArray)) ++ t156) ++ (⟨#[47]⟩ : ByteArray)) ++ t157]) x15 x16 (wrap64 (x17 + 1))) else (none)) else (none))) else (none)) else (none))) else (none))) else (none)) else (none)) else ((strings_Join.f x5 (⟨#[32]⟩ : ByteArray)).bind fun t161 => (some (t161, 0)))
def pack_Print.f (k : Nat) (l0_0 : List (S48)) : Option (ByteArray × Int) := (pack_Check.f k l0_0).bind fun t149 => (if t149 = 0 then (pack_Print.l0 k (([(⟨#[112, 97, 99, 107]⟩ : ByteArray)] : List ByteArray)) l0_0 (l0_0.length : Int) 0) else (some ((⟨#[]⟩ : ByteArray), t149)))
def pack_Print.T8 : Bool × List (List Nat × List Nat) := (true, [([], []), ([], []), ([1], [1]), ([2], [2]), ([3], [3]), ([], []), ([5], [5]), ([6, 3], [6]), ([4, 7], [4, 7]), ([8], [8]), ([], []), ([10], [10]), ([11, 7], [11]), ([9, 12], [9, 12]), ([13], [13]), ([0, 14, 12], [0, 14]), ([15, 15, 0, 1, 2, 3, 4, 5, 6, 7, 8, 9, 10, 11, 12, 13, 14, 15], [0, 15])])
def pack_Print.B8 : List Nat := [0, 0, 2, 6, 14, 0, 32, 110, 254, 510, 0, 1024, 3310, 8190, 16382, 32767, 65535]
theorem pack_Print.tab8 : rtab .any (opsOf Tryd.f58 8) = pack_Print.T8 := by kernel_rfl
theorem pack_Print.bits8 : waitsOk pack_Print.T8.2 pack_Print.B8 = true := by kernel_rfl
set_option maxHeartbeats 8000000 in
set_option maxRecDepth 100000 in
theorem pack_Print.calls (k : Nat) (A0_0 : Option Addr) (c0_0 : Nat) (l0_0 : List (S48)) (r1 : ByteArray) (r2 : Int) (w : World) (hr0_0 : Kd.C k48 w A0_0 l0_0.length l0_0) (hc0_0 : l0_0.length ≤ c0_0) (hG : Glob w) (h : pack_Print.f k l0_0 = some (r1, r2)) :
    Calls Tryd.prog 58 #[.agg #[.slice A0_0 l0_0.length c0_0]] w fun e w' => e = .returned (.tuple #[.string r1, .int .i64 r2]) ∧ Below w.heap.size w w' := by
  have hu24 := Tryd.underlying24
  have hu48 := Tryd.underlying48
  have HR0_0 := Aside0.mk hr0_0
  have HC0_0 := Aside0.mk hc0_0
  clear hr0_0 hc0_0
  have HB := Aside0.mk (Below.refl w.heap.size w)
  have HGl := Aside0.mk hG
  clear hG
  have H : ((pack_Check.f k l0_0).bind fun t149 => (if t149 = 0 then (pack_Print.l0 k (([(⟨#[112, 97, 99, 107]⟩ : ByteArray)] : List ByteArray)) l0_0 (l0_0.length : Int) 0) else (some ((⟨#[]⟩ : ByteArray), t149)))) = some (r1, r2) := h
  clear h
  replace H := Option.bind_eq_some_iff.mp H
  obtain ⟨t149, A20, H⟩ := H
  replace H : (if t149 = 0 then (pack_Print.l0 k (([(⟨#[112, 97, 99, 107]⟩ : ByteArray)] : List ByteArray)) l0_0 (l0_0.length : Int) 0) else (some ((⟨#[]⟩ : ByteArray), t149))) = some (r1, r2) := H
  have A2 := Aside0.mk A20
  clear A20
  by_cases c3 : t149 = 0
  · rw [if_pos c3] at H
    have c3b0 : (t149 == 0) = true := beq_iff_eq.mpr c3
    have c3b1 : (t149 != 0) = false := bne_eq_false_iff_eq.mpr c3
    clear c3
    obtain ⟨y150, hy150⟩ : ∃ y_ : List ByteArray, y_ = (([(⟨#[112, 97, 99, 107]⟩ : ByteArray)] : List ByteArray)) := ⟨_, rfl⟩
    replace H : (pack_Print.l0 k y150 l0_0 (l0_0.length : Int) 0) = some (r1, r2) := by first | (rw [hy150]; with_reducible exact H) | (have H2_ := (Option.bind_some _ _).symm.trans H; rw [hy150]; with_reducible exact H2_) | (have H2_ := (Option.bind_some _ _).symm.trans H; with_reducible exact H2_) | with_reducible exact H | (rw [hy150]; exact H) | exact H
    have Ny150 := Aside0.mk hy150
    clear hy150
    have H' := Aside0.mk H
    clear H
    go_enter Tryd.func58, Tryd.ntmps58
    go_wp2_with (first | ((with_reducible refine gate_dst (N := 1) rfl ?_); refine box_event ?hg (N := 1) ?hd (cs := #[.slice A0_0 l0_0.length c0_0]) (t := 24) ?hr ?_; (case hd => rfl); (case hg => rfl); (case hr => first | (go_simp; done) | (go_simp; rfl)); intro gb148 hg w4 hbox hb; have n0_ := Aside0.mk (below_step (by repeat (first | (with_reducible first | exact HB.out | apply below_alloc | apply pw_below_drewN | apply below_drew1) | exact HB.out)) hb); have n1_ := Aside0.mk (hbox); have n2_ := Aside0.mk ((by rw [hg]; exact (below_size (by repeat (first | (with_reducible first | exact HB.out | apply below_alloc | apply pw_below_drewN | apply below_drew1) | exact HB.out))) : w.heap.size ≤ gb148)); have n3_ := Aside0.mk ((by rw [hg]; exact (below_size (by repeat (first | (with_reducible first | exact HB.out | apply below_alloc | apply pw_below_drewN | apply below_drew1) | exact HB.out))) : w.heap.size ≤ gb148)); clear HB; have HB := n0_; have BK148 := n1_; have GW148 := n2_; have GE148 := n3_; clear n0_ n1_ n2_ n3_; clear hb hbox hg; have hcz5_0 : w4.cell? ⟨gb148, 0, none⟩ = some (.slice A0_0 l0_0.length c0_0) := (blk_cell BK148.out 0).trans rfl; have hfz5_0 := blk_frozen BK148.out 0) | ((with_reducible refine gate_callee (f := 25) rfl ?_); refine goesL_ (some 9) rfl rfl Tryd.func25 (by kernel_rfl) rfl #[.agg #[.slice A0_0 l0_0.length c0_0]] rfl (by (try simp only [List.map_toArray, List.map_cons, List.map_nil]); first | done | rfl | (simp only [List.length_drop, List.length_take]; rfl)) ?_; (with_reducible refine (pack_Check.calls k _ _ l0_0 t149 _ ?side1 ?side2 A2.out).mono ?_); (case side1 => repeat (first | exact (Kd.C_below HR0_0.out HB.out) | (with_reducible refine Kd.C_alloc ?_ _) | (with_reducible refine Kd.C_drewN ?_ _) | (with_reducible refine Kd.C_drew ?_))); (case side2 => exact HC0_0.out); rintro e w6 ⟨rfl, hb⟩; refine ⟨_, rfl, ?_⟩; have n0_ := Aside0.mk (blk_below (g := gb148) (o := .cells #[.slice A0_0 l0_0.length c0_0] 24 (0, 0)) (by (with_reducible repeat (first | refine blk_drewN ?_ _ | refine blk_drew ?_ | refine blk_alloc ?_ _)); exact BK148.out) hb); have n1_ := Aside0.mk (below_step (by repeat (first | (with_reducible first | exact HB.out | apply below_alloc | apply pw_below_drewN | apply below_drew1 | refine below_set ?_ GE148.out) | exact HB.out)) hb); clear BK148; clear HB; have BK148 := n0_; have HB := n1_; clear n0_ n1_; (try clear hb); (try clear hb2); (try clear hk); (try clear hi)) | ((with_reducible refine gate_dst (N := 13) rfl ?_); refine Kd.R_lit Kd.string _ 9 ?hg (N := 13) ?hd (xs := ([(⟨#[112, 97, 99, 107]⟩ : ByteArray)] : List ByteArray)) (inner := [.string (⟨#[112, 97, 99, 107]⟩ : ByteArray)]) (ok := fun _ => True) (okp := fun _ => True) ?hr ?hp (fun _ hk => hk) trivial (Below.refl _ _) (Nat.le_refl _) (by simp) ?_; (case hd => rfl); (case hg => rfl); (case hr => first | (go_simp; done) | (go_simp; rfl)); (case hp => exact (Reps.one (show Kd.M Kd.string _ _ _ (⟨#[112, 97, 99, 107]⟩ : ByteArray) [.string (⟨#[112, 97, 99, 107]⟩ : ByteArray)] from rfl) (Reps.none _ _))); intro v151 w7 ho8 hb hg_ hnew_; clear hg_ hnew_; (first | rw [← Ny150.out] at ho8 | (simp only [Int.reduceToNat] at ho8; rw [← Ny150.out] at ho8)); have n0_ := Aside0.mk (Kd.R_lower ho8 (below_size (by repeat (first | (with_reducible first | exact HB.out | apply below_alloc | apply pw_below_drewN | apply below_drew1 | refine below_set ?_ GE148.out) | exact HB.out)))); have n1_ := Aside0.mk (blk_below (g := gb148) (o := .cells #[.slice A0_0 l0_0.length c0_0] 24 (0, 0)) (by (with_reducible repeat (first | refine blk_drewN ?_ _ | refine blk_drew ?_ | refine blk_alloc ?_ _)); exact BK148.out) hb); have n2_ := Aside0.mk (below_step (by repeat (first | (with_reducible first | exact HB.out | apply below_alloc | apply pw_below_drewN | apply below_drew1 | refine below_set ?_ GE148.out) | exact HB.out)) hb); clear BK148; clear HB; have HO152 := n0_; have BK148 := n1_; have HB := n2_; clear n0_ n1_ n2_; clear hb ho8; have hcz9_0 : w7.cell? ⟨gb148, 0, none⟩ = some (.slice A0_0 l0_0.length c0_0) := (blk_cell BK148.out 0).trans rfl; have hfz9_0 := blk_frozen BK148.out 0))
    go_loopg [5, 17] k (fun kq v5 v17 w' => ∃ (x5_1 : List ByteArray) (x17_1 : Int), v17 = .int .i64 x17_1 ∧ Aside0 (pack_Print.l0 kq x5_1 l0_0 (l0_0.length : Int) x17_1 = some (r1, r2)) ∧ Aside0 (kq ≤ k) ∧ Aside0 (Kd.R Kd.string 9 w' w.heap.size (fun _ => True) v5 x5_1) ∧ Aside0 (w'.heap[gb148]? = some (.cells #[(.slice A0_0 l0_0.length c0_0)] 24 (0, 0))) ∧ Aside0 (Below w.heap.size w w'))
    case atStart => exact ⟨(y150), (0), (by first | rfl | (simp; done) | (simp [*]; done)), H', ⟨Nat.le_refl _⟩, ⟨by (with_reducible repeat (first | apply Kd.R_alloc | apply Kd.R_drewN | apply Kd.R_drew)); exact HO152.out⟩, ⟨by (with_reducible repeat (first | refine blk_drewN ?_ _ | refine blk_drew ?_ | refine blk_alloc ?_ _)); exact BK148.out⟩, ⟨by repeat (first | (with_reducible first | exact HB.out | apply below_alloc | apply pw_below_drewN | apply below_drew1 | refine below_set ?_ GE148.out) | exact HB.out)⟩⟩
    case round =>
      clear H'
      try clear c2
      try clear p2
      try clear c3
      try clear c3b0
      try clear c3b1
      try clear c5
      try clear hcz5_0
      try clear hcz9_0
      try clear hfz5_0
      try clear hfz9_0
      obtain ⟨x5_1, x17_1, rfl, HA, HK1, HO_5, BK148, HB⟩ := hrel
      cases gk with
      | zero => exact absurd HA.out (by simp [pack_Print.l0])
      | succ k1 =>
        have H := HA.out
        clear HA
        simp only [pack_Print.l0] at H
        by_cases c10 : x17_1 < (l0_0.length : Int)
        · rw [if_pos c10] at H
          have c10b0 : decide (x17_1 < (l0_0.length : Int)) = true := decide_eq_true c10
          clear c10
          by_cases c11 : 0 ≤ x17_1
          · rw [if_pos c11] at H
            have c11b0 : decide (0 ≤ x17_1) = true := decide_eq_true c11
            clear c11
            by_cases c12 : x17_1 < (l0_0.length : Int)
            · rw [if_pos c12] at H
              have c12b0 : decide (x17_1 < (l0_0.length : Int)) = true := decide_eq_true c12
              clear c12
              replace H := Option.bind_eq_some_iff.mp H
              obtain ⟨t155, A130, H⟩ := H
              replace H : (if t155.size + 1 ≤ 9223372036854775807 then ((strconv_Itoa.f ((rd_T48 l0_0 x17_1).f1)).bind fun t156 => (if (t155 ++ (⟨#[47]⟩ : ByteArray)).size + t156.size ≤ 9223372036854775807 then (if ((t155 ++ (⟨#[47]⟩ : ByteArray)) ++ t156).size + 1 ≤ 9223372036854775807 then ((strconv_Itoa.f ((rd_T48 l0_0 x17_1).f2)).bind fun t157 => (if (((t155 ++ (⟨#[47]⟩ : ByteArray)) ++ t156) ++ (⟨#[47]⟩ : ByteArray)).size + t157.size ≤ 9223372036854775807 then (if x5_1.length < 8796093022208 then (pack_Print.l0 k1 (x5_1 ++ [(((t155 ++ (⟨#[47]⟩ : ByteArray)) ++ t156) ++ (⟨#[47]⟩ : ByteArray)) ++ t157]) l0_0 (l0_0.length : Int) (wrap64 (x17_1 + 1))) else (none)) else (none))) else (none)) else (none))) else (none)) = some (r1, r2) := H
              have A13 := Aside0.mk A130
              clear A130
              by_cases c14 : t155.size + 1 ≤ 9223372036854775807
              · rw [if_pos c14] at H
                have c14b0 := eq_true c14
                have c14b1 : decide (t155.size + 1 ≤ 9223372036854775807) = true := decide_eq_true c14
                try have c14b2 : (9223372036854775807 < t155.size + 1) = False := eq_false (Nat.not_lt.2 c14)
                replace H := Option.bind_eq_some_iff.mp H
                obtain ⟨t156, A150, H⟩ := H
                replace H : (if (t155 ++ (⟨#[47]⟩ : ByteArray)).size + t156.size ≤ 9223372036854775807 then (if ((t155 ++ (⟨#[47]⟩ : ByteArray)) ++ t156).size + 1 ≤ 9223372036854775807 then ((strconv_Itoa.f ((rd_T48 l0_0 x17_1).f2)).bind fun t157 => (if (((t155 ++ (⟨#[47]⟩ : ByteArray)) ++ t156) ++ (⟨#[47]⟩ : ByteArray)).size + t157.size ≤ 9223372036854775807 then (if x5_1.length < 8796093022208 then (pack_Print.l0 k1 (x5_1 ++ [(((t155 ++ (⟨#[47]⟩ : ByteArray)) ++ t156) ++ (⟨#[47]⟩ : ByteArray)) ++ t157]) l0_0 (l0_0.length : Int) (wrap64 (x17_1 + 1))) else (none)) else (none))) else (none)) else (none)) = some (r1, r2) := H
                have A15 := Aside0.mk A150
                clear A150
                by_cases c16 : (t155 ++ (⟨#[47]⟩ : ByteArray)).size + t156.size ≤ 9223372036854775807
                · rw [if_pos c16] at H
                  have c16b0 := eq_true c16
                  have c16b1 : decide ((t155 ++ (⟨#[47]⟩ : ByteArray)).size + t156.size ≤ 9223372036854775807) = true := decide_eq_true c16
                  try have c16b2 : (9223372036854775807 < (t155 ++ (⟨#[47]⟩ : ByteArray)).size + t156.size) = False := eq_false (Nat.not_lt.2 c16)
                  have c16n := c16b2
                  simp only [ByteArray.size_append, show (⟨#[47]⟩ : ByteArray).size = 1 from rfl, show (⟨#[32]⟩ : ByteArray).size = 1 from rfl] at c16n
                  by_cases c17 : ((t155 ++ (⟨#[47]⟩ : ByteArray)) ++ t156).size + 1 ≤ 9223372036854775807
                  · rw [if_pos c17] at H
                    have c17b0 := eq_true c17
                    have c17b1 : decide (((t155 ++ (⟨#[47]⟩ : ByteArray)) ++ t156).size + 1 ≤ 9223372036854775807) = true := decide_eq_true c17
                    try have c17b2 : (9223372036854775807 < ((t155 ++ (⟨#[47]⟩ : ByteArray)) ++ t156).size + 1) = False := eq_false (Nat.not_lt.2 c17)
                    have c17n := c17b2
                    simp only [ByteArray.size_append, show (⟨#[47]⟩ : ByteArray).size = 1 from rfl, show (⟨#[32]⟩ : ByteArray).size = 1 from rfl] at c17n
                    replace H := Option.bind_eq_some_iff.mp H
                    obtain ⟨t157, A180, H⟩ := H
                    replace H : (if (((t155 ++ (⟨#[47]⟩ : ByteArray)) ++ t156) ++ (⟨#[47]⟩ : ByteArray)).size + t157.size ≤ 9223372036854775807 then (if x5_1.length < 8796093022208 then (pack_Print.l0 k1 (x5_1 ++ [(((t155 ++ (⟨#[47]⟩ : ByteArray)) ++ t156) ++ (⟨#[47]⟩ : ByteArray)) ++ t157]) l0_0 (l0_0.length : Int) (wrap64 (x17_1 + 1))) else (none)) else (none)) = some (r1, r2) := H
                    have A18 := Aside0.mk A180
                    clear A180
                    by_cases c19 : (((t155 ++ (⟨#[47]⟩ : ByteArray)) ++ t156) ++ (⟨#[47]⟩ : ByteArray)).size + t157.size ≤ 9223372036854775807
                    · rw [if_pos c19] at H
                      have c19b0 := eq_true c19
                      have c19b1 : decide ((((t155 ++ (⟨#[47]⟩ : ByteArray)) ++ t156) ++ (⟨#[47]⟩ : ByteArray)).size + t157.size ≤ 9223372036854775807) = true := decide_eq_true c19
                      try have c19b2 : (9223372036854775807 < (((t155 ++ (⟨#[47]⟩ : ByteArray)) ++ t156) ++ (⟨#[47]⟩ : ByteArray)).size + t157.size) = False := eq_false (Nat.not_lt.2 c19)
                      have c19n := c19b2
                      simp only [ByteArray.size_append, show (⟨#[47]⟩ : ByteArray).size = 1 from rfl, show (⟨#[32]⟩ : ByteArray).size = 1 from rfl] at c19n
                      by_cases c20 : x5_1.length < 8796093022208
                      · rw [if_pos c20] at H
                        have LMc20 := Aside0.mk c20
                        clear c20
                        obtain ⟨y158, hy158⟩ : ∃ y_ : List ByteArray, y_ = (x5_1 ++ [(((t155 ++ (⟨#[47]⟩ : ByteArray)) ++ t156) ++ (⟨#[47]⟩ : ByteArray)) ++ t157]) := ⟨_, rfl⟩
                        replace H : (pack_Print.l0 k1 y158 l0_0 (l0_0.length : Int) (wrap64 (x17_1 + 1))) = some (r1, r2) := by first | (rw [hy158]; with_reducible exact H) | (have H2_ := (Option.bind_some _ _).symm.trans H; rw [hy158]; with_reducible exact H2_) | (have H2_ := (Option.bind_some _ _).symm.trans H; with_reducible exact H2_) | with_reducible exact H | (rw [hy158]; exact H) | exact H
                        have Ny158 := Aside0.mk hy158
                        clear hy158
                        have H' := Aside0.mk H
                        clear H
                        have p153 : 0 ≤ (x17_1 : Int) := of_decide_eq_true (by first | (with_reducible assumption) | assumption)
                        have q153 : x17_1 < (l0_0.length : Int) := of_decide_eq_true (by first | (with_reducible assumption) | assumption)
                        obtain ⟨ad153, e153, hx153_0, hx153_1, hx153_2⟩ := at_T48 HR0_0.out x17_1 p153 q153
                        cases e153
                        replace hx153_0 := (HB.out.cell (World.block_lt_of_cell? w _ hx153_0)).trans hx153_0
                        replace hx153_1 := (HB.out.cell (World.block_lt_of_cell? w _ hx153_1)).trans hx153_1
                        replace hx153_2 := (HB.out.cell (World.block_lt_of_cell? w _ hx153_2)).trans hx153_2
                        replace p153 := eq_true p153
                        replace q153 := eq_true q153
                        try go_wp2_with (first | ((with_reducible refine gate_dst (N := 7) rfl ?_); refine box_event ?hg (N := 7) ?hd (cs := #[.int .i64 0, .int .i64 0, .int .i64 0]) (t := 48) ?hr ?_; (case hd => rfl); (case hg => rfl); (case hr => first | (go_simp; done) | (go_simp; rfl)); intro gb154 hg w21 hbox hb; have n0_ := Aside0.mk (Kd.R_below (by (with_reducible repeat (first | apply Kd.R_alloc | apply Kd.R_drewN | apply Kd.R_drew)); exact HO_5.out) hb); have n1_ := Aside0.mk (blk_below (g := gb148) (o := .cells #[.slice (some ad153) l0_0.length c0_0] 24 (0, 0)) (by (with_reducible repeat (first | refine blk_drewN ?_ _ | refine blk_drew ?_ | refine blk_alloc ?_ _)); exact BK148.out) hb); have n2_ := Aside0.mk (below_step (by repeat (first | (with_reducible first | exact HB.out | apply below_alloc | apply pw_below_drewN | apply below_drew1 | refine below_set ?_ GE148.out) | exact HB.out)) hb); have n3_ := Aside0.mk (hbox); have n4_ := Aside0.mk ((by rw [hg]; exact (below_size (by repeat (first | (with_reducible first | exact HB.out | apply below_alloc | apply pw_below_drewN | apply below_drew1 | refine below_set ?_ GE148.out) | exact HB.out))) : w.heap.size ≤ gb154)); have n5_ := Aside0.mk ((by rw [hg]; exact (below_size (by repeat (first | (with_reducible first | exact HB.out | apply below_alloc | apply pw_below_drewN | apply below_drew1 | refine below_set ?_ GE148.out) | exact HB.out))) : w.heap.size ≤ gb154)); have n6_ := Aside0.mk ((by rw [hg]; exact Nat.ne_of_lt (blk_lt (g := gb148) (o := .cells #[.slice (some ad153) l0_0.length c0_0] 24 (0, 0)) (by (with_reducible repeat (first | refine blk_drewN ?_ _ | refine blk_drew ?_ | refine blk_alloc ?_ _)); exact BK148.out)) : gb148 ≠ gb154)); have n7_ := Aside0.mk ((by rw [hg]; exact Nat.ne_of_gt (blk_lt (g := gb148) (o := .cells #[.slice (some ad153) l0_0.length c0_0] 24 (0, 0)) (by (with_reducible repeat (first | refine blk_drewN ?_ _ | refine blk_drew ?_ | refine blk_alloc ?_ _)); exact BK148.out)) : gb154 ≠ gb148)); clear HO_5; clear BK148; clear HB; have HO_5 := n0_; have BK148 := n1_; have HB := n2_; have BK154 := n3_; have GW154 := n4_; have GE154 := n5_; have NB148_154 := n6_; have NB154_148 := n7_; clear n0_ n1_ n2_ n3_ n4_ n5_ n6_ n7_; clear hb hbox hg; have hnb22 := NB154_148.out; have hnc22 := NB148_154.out; have hcz23_0 : w21.cell? ⟨gb154, 0, none⟩ = some (.int .i64 0) := (blk_cell BK154.out 0).trans rfl; have hcz23_1 : w21.cell? ⟨gb154, 1, none⟩ = some (.int .i64 0) := (blk_cell BK154.out 1).trans rfl; have hcz23_2 : w21.cell? ⟨gb154, 2, none⟩ = some (.int .i64 0) := (blk_cell BK154.out 2).trans rfl; have hfz23_0 := blk_frozen BK154.out 0; have hfz23_1 := blk_frozen BK154.out 1; have hfz23_2 := blk_frozen BK154.out 2))
                        have n0_ : Aside0 (Kd.R Kd.string 9 (((w21.setCell ⟨gb154, 0, none⟩ (.int .i64 ((rd_T48 l0_0 x17_1).f0))).setCell ⟨gb154, 1, none⟩ (.int .i64 ((rd_T48 l0_0 x17_1).f1))).setCell ⟨gb154, 2, none⟩ (.int .i64 ((rd_T48 l0_0 x17_1).f2))) w.heap.size (fun _ => True) u5 x5_1) := ⟨by (with_reducible repeat (first | apply Kd.R_alloc | apply Kd.R_drewN | apply Kd.R_drew)); exact Kd.R_mono (Kd.R_far (p := ⟨gb154, 2, none⟩) (Kd.R_far (p := ⟨gb154, 1, none⟩) (Kd.R_far (p := ⟨gb154, 0, none⟩) (Kd.R_types HO_5.out BK154.out (by decide)) (fun _ hk => hk.2) (.int .i64 ((rd_T48 l0_0 x17_1).f0))) (fun _ hk => hk.2) (.int .i64 ((rd_T48 l0_0 x17_1).f1))) (fun _ hk => hk.2) (.int .i64 ((rd_T48 l0_0 x17_1).f2))) (fun _ hk => trivial)⟩
                        have n1_ : Aside0 ((((w21.setCell ⟨gb154, 0, none⟩ (.int .i64 ((rd_T48 l0_0 x17_1).f0))).setCell ⟨gb154, 1, none⟩ (.int .i64 ((rd_T48 l0_0 x17_1).f1))).setCell ⟨gb154, 2, none⟩ (.int .i64 ((rd_T48 l0_0 x17_1).f2))).heap[gb148]? = some (.cells #[.slice (some ad153) l0_0.length c0_0] 24 (0, 0))) := ⟨by (with_reducible repeat (first | refine blk_drewN ?_ _ | refine blk_drew ?_ | refine blk_alloc ?_ _)); refine blk_far ?_ NB148_154.out _; (with_reducible repeat (first | refine blk_drewN ?_ _ | refine blk_drew ?_ | refine blk_alloc ?_ _)); refine blk_far ?_ NB148_154.out _; (with_reducible repeat (first | refine blk_drewN ?_ _ | refine blk_drew ?_ | refine blk_alloc ?_ _)); refine blk_far ?_ NB148_154.out _; (with_reducible repeat (first | refine blk_drewN ?_ _ | refine blk_drew ?_ | refine blk_alloc ?_ _)); exact BK148.out⟩
                        have n2_ : Aside0 ((((w21.setCell ⟨gb154, 0, none⟩ (.int .i64 ((rd_T48 l0_0 x17_1).f0))).setCell ⟨gb154, 1, none⟩ (.int .i64 ((rd_T48 l0_0 x17_1).f1))).setCell ⟨gb154, 2, none⟩ (.int .i64 ((rd_T48 l0_0 x17_1).f2))).heap[gb154]? = some (.cells #[.int .i64 ((rd_T48 l0_0 x17_1).f0), .int .i64 ((rd_T48 l0_0 x17_1).f1), .int .i64 ((rd_T48 l0_0 x17_1).f2)] 48 (0, 0))) := ⟨by (with_reducible repeat (first | refine blk_drewN ?_ _ | refine blk_drew ?_ | refine blk_alloc ?_ _)); refine blk_put (cs := #[.int .i64 ((rd_T48 l0_0 x17_1).f0), .int .i64 ((rd_T48 l0_0 x17_1).f1), .int .i64 0]) ?_ 2 _ rfl; (with_reducible repeat (first | refine blk_drewN ?_ _ | refine blk_drew ?_ | refine blk_alloc ?_ _)); refine blk_put (cs := #[.int .i64 ((rd_T48 l0_0 x17_1).f0), .int .i64 0, .int .i64 0]) ?_ 1 _ rfl; (with_reducible repeat (first | refine blk_drewN ?_ _ | refine blk_drew ?_ | refine blk_alloc ?_ _)); refine blk_put (cs := #[.int .i64 0, .int .i64 0, .int .i64 0]) ?_ 0 _ rfl; (with_reducible repeat (first | refine blk_drewN ?_ _ | refine blk_drew ?_ | refine blk_alloc ?_ _)); exact BK154.out⟩
                        have n3_ : Aside0 (Below w.heap.size w (((w21.setCell ⟨gb154, 0, none⟩ (.int .i64 ((rd_T48 l0_0 x17_1).f0))).setCell ⟨gb154, 1, none⟩ (.int .i64 ((rd_T48 l0_0 x17_1).f1))).setCell ⟨gb154, 2, none⟩ (.int .i64 ((rd_T48 l0_0 x17_1).f2)))) := ⟨by repeat (first | (with_reducible first | exact HB.out | apply below_alloc | apply pw_below_drewN | apply below_drew1 | refine below_set ?_ GE148.out | refine below_set ?_ GE154.out) | exact HB.out)⟩
                        (try clear HO_5)
                        (try clear BK148)
                        (try clear BK154)
                        (try clear HB)
                        generalize (((w21.setCell ⟨gb154, 0, none⟩ (.int .i64 ((rd_T48 l0_0 x17_1).f0))).setCell ⟨gb154, 1, none⟩ (.int .i64 ((rd_T48 l0_0 x17_1).f1))).setCell ⟨gb154, 2, none⟩ (.int .i64 ((rd_T48 l0_0 x17_1).f2))) = w24 at n0_ n1_ n2_ n3_ ⊢
                        have HO_5 := n0_
                        have BK148 := n1_
                        have BK154 := n2_
                        have HB := n3_
                        clear n0_ n1_ n2_ n3_
                        have n0_ := Aside0.mk (Kd.R_drew HO_5.out)
                        have n1_ := Aside0.mk (blk_drew BK148.out)
                        have n2_ := Aside0.mk (blk_drew BK154.out)
                        have n3_ := Aside0.mk (below_drew1 HB.out)
                        clear HO_5
                        clear BK148
                        clear BK154
                        clear HB
                        have HO_5 := n0_
                        have BK148 := n1_
                        have BK154 := n2_
                        have HB := n3_
                        clear n0_ n1_ n2_ n3_
                        refine start_ (n := 17) (S := fun w' => w'.cell? ⟨gb154, 0, none⟩ = some (.int .i64 ((rd_T48 l0_0 x17_1).f0)) ∧ w'.cell? ⟨gb154, 1, none⟩ = some (.int .i64 ((rd_T48 l0_0 x17_1).f1)) ∧ w'.cell? ⟨gb154, 2, none⟩ = some (.int .i64 ((rd_T48 l0_0 x17_1).f2))) (ds := []) #[false, false, false, false, false, false, false, false, false, false, false, false, false, false, false, false, false] (by kernel_rfl) rfl rfl ⟨(blk_cell BK154.out 0).trans rfl, (blk_cell BK154.out 1).trans rfl, (blk_cell BK154.out 2).trans rfl⟩ (fun hHeld => ?_); refine with_tabW pack_Print.tab8 pack_Print.bits8 (fun HT_ HW_ => ?_)
                        generalize w24.drew = w25 at HO_5 BK148 BK154 HB hHeld ⊢
                        refine pure_ (i := 0) (N := some 21) (v := ?_) (a' := ?_) #[true, false, false, false, false, false, false, false, false, false, false, false, false, false, false, false, false] rfl rfl (any_of HT_.out (by kernel_rfl)) (fun _ _ _ h => h) (Or.inl ⟨by rfl, ?_⟩) ?_ ?_
                        rotate_left
                        · intro w'
                          go_simp
                          with_reducible rfl
                        rotate_left
                        · simp only [Act.put, List.setIfInBounds_toArray, List.set_cons_zero, List.set_cons_succ, i64_w, i32_w]
                          rfl
                        refine pure_ (i := 1) (N := some 22) (v := ?_) (a' := ?_) #[true, true, false, false, false, false, false, false, false, false, false, false, false, false, false, false, false] rfl rfl (any_of HT_.out (by kernel_rfl)) (fun _ _ _ h => h) (Or.inl ⟨by rfl, ?_⟩) ?_ ?_
                        rotate_left
                        · intro w'
                          go_simp
                          with_reducible rfl
                        rotate_left
                        · simp only [Act.put, List.setIfInBounds_toArray, List.set_cons_zero, List.set_cons_succ, i64_w, i32_w]
                          rfl
                        refine pure_ (i := 5) (N := some 26) (v := ?_) (a' := ?_) #[true, true, false, false, false, true, false, false, false, false, false, false, false, false, false, false, false] rfl rfl (any_of HT_.out (by kernel_rfl)) (fun _ _ _ h => h) (Or.inl ⟨by rfl, ?_⟩) ?_ ?_
                        rotate_left
                        · intro w'
                          go_simp
                          with_reducible rfl
                        rotate_left
                        · simp only [Act.put, List.setIfInBounds_toArray, List.set_cons_zero, List.set_cons_succ, i64_w, i32_w]
                          rfl
                        refine pure_ (i := 10) (N := some 31) (v := ?_) (a' := ?_) #[true, true, false, false, false, true, false, false, false, false, true, false, false, false, false, false, false] rfl rfl (any_of HT_.out (by kernel_rfl)) (fun _ _ _ h => h) (Or.inl ⟨by rfl, ?_⟩) ?_ ?_
                        rotate_left
                        · intro w'
                          go_simp
                          with_reducible rfl
                        rotate_left
                        · simp only [Act.put, List.setIfInBounds_toArray, List.set_cons_zero, List.set_cons_succ, i64_w, i32_w]
                          rfl
                        refine take_ (i := 2) (N := some 23) (v := ?_) (a' := ?_) #[true, true, true, false, false, true, false, false, false, false, true, false, false, false, false, false, false] rfl rfl (take_ofW HT_.out HW_.out (by kernel_rfl)) (fun _ _ _ h => h) (Or.inl ⟨by rfl, ?_⟩) hHeld ?_ ?_
                        rotate_left
                        · rintro w' ⟨s0, s1, s2⟩
                          go_simp
                          with_reducible rfl
                        rotate_left
                        · simp only [Act.put, List.setIfInBounds_toArray, List.set_cons_zero, List.set_cons_succ, i64_w, i32_w]
                          rfl
                        refine take_ (i := 6) (N := some 27) (v := ?_) (a' := ?_) #[true, true, true, false, false, true, true, false, false, false, true, false, false, false, false, false, false] rfl rfl (take_ofW HT_.out HW_.out (by kernel_rfl)) (fun _ _ _ h => h) (Or.inl ⟨by rfl, ?_⟩) hHeld ?_ ?_
                        rotate_left
                        · rintro w' ⟨s0, s1, s2⟩
                          go_simp
                          with_reducible rfl
                        rotate_left
                        · simp only [Act.put, List.setIfInBounds_toArray, List.set_cons_zero, List.set_cons_succ, i64_w, i32_w]
                          rfl
                        refine take_ (i := 11) (N := some 32) (v := ?_) (a' := ?_) #[true, true, true, false, false, true, true, false, false, false, true, true, false, false, false, false, false] rfl rfl (take_ofW HT_.out HW_.out (by kernel_rfl)) (fun _ _ _ h => h) (Or.inl ⟨by rfl, ?_⟩) hHeld ?_ ?_
                        rotate_left
                        · rintro w' ⟨s0, s1, s2⟩
                          go_simp
                          with_reducible rfl
                        rotate_left
                        · simp only [Act.put, List.setIfInBounds_toArray, List.set_cons_zero, List.set_cons_succ, i64_w, i32_w]
                          rfl
                        refine one_ (i := 3) (N := some 24) #[true, true, true, true, false, true, true, false, false, false, true, true, false, false, false, false, false] rfl rfl (one_of HT_.out (by kernel_rfl)) (by decide) (fun K hK => ?_)
                        refine goes_ Tryd.func86 (by kernel_rfl) rfl #[.int .i64 ((rd_T48 l0_0 x17_1).f0)] (by rfl) rfl rfl (by (try simp only [List.map_toArray, List.map_cons, List.map_nil]); first | done | rfl | (simp only [List.length_drop, List.length_take]; rfl)) ?_
                        with_reducible refine (strconv_Itoa.calls ((rd_T48 l0_0 x17_1).f0) t155 _ ?hgl_ A13.out).mono ?_
                        case hgl_ => exact HGl.out.below (by repeat (first | (with_reducible first | exact HB.out | apply below_alloc | apply pw_below_drewN | apply below_drew1 | refine below_set ?_ GE148.out | refine below_set ?_ GE154.out) | exact HB.out)) (Nat.le_refl _)
                        rintro e w26 ⟨rfl, hb⟩
                        refine ⟨_, rfl, ?_⟩
                        have n0_ := Aside0.mk (Kd.R_below (by (with_reducible repeat (first | apply Kd.R_alloc | apply Kd.R_drewN | apply Kd.R_drew)); exact HO_5.out) hb)
                        have n1_ := Aside0.mk (blk_below (g := gb148) (o := .cells #[.slice (some ad153) l0_0.length c0_0] 24 (0, 0)) (by (with_reducible repeat (first | refine blk_drewN ?_ _ | refine blk_drew ?_ | refine blk_alloc ?_ _)); exact BK148.out) hb)
                        have n2_ := Aside0.mk (blk_below (g := gb154) (o := .cells #[.int .i64 ((rd_T48 l0_0 x17_1).f0), .int .i64 ((rd_T48 l0_0 x17_1).f1), .int .i64 ((rd_T48 l0_0 x17_1).f2)] 48 (0, 0)) (by (with_reducible repeat (first | refine blk_drewN ?_ _ | refine blk_drew ?_ | refine blk_alloc ?_ _)); exact BK154.out) hb)
                        have n3_ := Aside0.mk (below_step (by repeat (first | (with_reducible first | exact HB.out | apply below_alloc | apply pw_below_drewN | apply below_drew1 | refine below_set ?_ GE148.out | refine below_set ?_ GE154.out) | exact HB.out)) hb)
                        clear HO_5
                        clear BK148
                        clear BK154
                        clear HB
                        have HO_5 := n0_
                        have BK148 := n1_
                        have BK154 := n2_
                        have HB := n3_
                        clear n0_ n1_ n2_ n3_
                        (try clear hb)
                        (try clear hb2)
                        (try clear hk)
                        (try clear hi)
                        refine hK.out _ _ ⟨(blk_cell BK154.out 0).trans rfl, (blk_cell BK154.out 1).trans rfl, (blk_cell BK154.out 2).trans rfl⟩ (fun hHeld => ?_)
                        clear hK K
                        refine norm_ (a' := ?_) ?_ ?_
                        rotate_left
                        · show Act.put _ (some 24) _ = _
                          simp only [Act.put, List.setIfInBounds_toArray, List.set_cons_zero, List.set_cons_succ, i64_w, i32_w]
                          rfl
                        refine pure_ (i := 4) (N := some 25) (v := ?_) (a' := ?_) #[true, true, true, true, true, true, true, false, false, false, true, true, false, false, false, false, false] rfl rfl (any_of HT_.out (by kernel_rfl)) (fun _ _ _ h => h) (Or.inl ⟨by rfl, ?_⟩) ?_ ?_
                        rotate_left
                        · intro w'
                          go_simp
                          with_reducible rfl
                        rotate_left
                        · simp only [Act.put, List.setIfInBounds_toArray, List.set_cons_zero, List.set_cons_succ, i64_w, i32_w]
                          rfl
                        refine one_ (i := 7) (N := some 28) #[true, true, true, true, true, true, true, true, false, false, true, true, false, false, false, false, false] rfl rfl (one_of HT_.out (by kernel_rfl)) (by decide) (fun K hK => ?_)
                        refine goes_ Tryd.func86 (by kernel_rfl) rfl #[.int .i64 ((rd_T48 l0_0 x17_1).f1)] (by rfl) rfl rfl (by (try simp only [List.map_toArray, List.map_cons, List.map_nil]); first | done | rfl | (simp only [List.length_drop, List.length_take]; rfl)) ?_
                        with_reducible refine (strconv_Itoa.calls ((rd_T48 l0_0 x17_1).f1) t156 _ ?hgl_ A15.out).mono ?_
                        case hgl_ => exact HGl.out.below (by repeat (first | (with_reducible first | exact HB.out | apply below_alloc | apply pw_below_drewN | apply below_drew1 | refine below_set ?_ GE148.out | refine below_set ?_ GE154.out) | exact HB.out)) (Nat.le_refl _)
                        rintro e w27 ⟨rfl, hb⟩
                        refine ⟨_, rfl, ?_⟩
                        have n0_ := Aside0.mk (Kd.R_below (by (with_reducible repeat (first | apply Kd.R_alloc | apply Kd.R_drewN | apply Kd.R_drew)); exact HO_5.out) hb)
                        have n1_ := Aside0.mk (blk_below (g := gb148) (o := .cells #[.slice (some ad153) l0_0.length c0_0] 24 (0, 0)) (by (with_reducible repeat (first | refine blk_drewN ?_ _ | refine blk_drew ?_ | refine blk_alloc ?_ _)); exact BK148.out) hb)
                        have n2_ := Aside0.mk (blk_below (g := gb154) (o := .cells #[.int .i64 ((rd_T48 l0_0 x17_1).f0), .int .i64 ((rd_T48 l0_0 x17_1).f1), .int .i64 ((rd_T48 l0_0 x17_1).f2)] 48 (0, 0)) (by (with_reducible repeat (first | refine blk_drewN ?_ _ | refine blk_drew ?_ | refine blk_alloc ?_ _)); exact BK154.out) hb)
                        have n3_ := Aside0.mk (below_step (by repeat (first | (with_reducible first | exact HB.out | apply below_alloc | apply pw_below_drewN | apply below_drew1 | refine below_set ?_ GE148.out | refine below_set ?_ GE154.out) | exact HB.out)) hb)
                        clear HO_5
                        clear BK148
                        clear BK154
                        clear HB
                        have HO_5 := n0_
                        have BK148 := n1_
                        have BK154 := n2_
                        have HB := n3_
                        clear n0_ n1_ n2_ n3_
                        (try clear hb)
                        (try clear hb2)
                        (try clear hk)
                        (try clear hi)
                        refine hK.out _ _ ⟨(blk_cell BK154.out 0).trans rfl, (blk_cell BK154.out 1).trans rfl, (blk_cell BK154.out 2).trans rfl⟩ (fun hHeld => ?_)
                        clear hK K
                        refine norm_ (a' := ?_) ?_ ?_
                        rotate_left
                        · show Act.put _ (some 28) _ = _
                          simp only [Act.put, List.setIfInBounds_toArray, List.set_cons_zero, List.set_cons_succ, i64_w, i32_w]
                          rfl
                        refine pure_ (i := 8) (N := some 29) (v := ?_) (a' := ?_) #[true, true, true, true, true, true, true, true, true, false, true, true, false, false, false, false, false] rfl rfl (any_of HT_.out (by kernel_rfl)) (fun _ _ _ h => h) (Or.inl ⟨by rfl, ?_⟩) ?_ ?_
                        rotate_left
                        · intro w'
                          go_simp
                          with_reducible rfl
                        rotate_left
                        · simp only [Act.put, List.setIfInBounds_toArray, List.set_cons_zero, List.set_cons_succ, i64_w, i32_w]
                          rfl
                        refine pure_ (i := 9) (N := some 30) (v := ?_) (a' := ?_) #[true, true, true, true, true, true, true, true, true, true, true, true, false, false, false, false, false] rfl rfl (any_of HT_.out (by kernel_rfl)) (fun _ _ _ h => h) (Or.inl ⟨by rfl, ?_⟩) ?_ ?_
                        rotate_left
                        · intro w'
                          go_simp
                          with_reducible rfl
                        rotate_left
                        · simp only [Act.put, List.setIfInBounds_toArray, List.set_cons_zero, List.set_cons_succ, i64_w, i32_w]
                          rfl
                        refine one_ (i := 12) (N := some 33) #[true, true, true, true, true, true, true, true, true, true, true, true, true, false, false, false, false] rfl rfl (one_of HT_.out (by kernel_rfl)) (by decide) (fun K hK => ?_)
                        refine goes_ Tryd.func86 (by kernel_rfl) rfl #[.int .i64 ((rd_T48 l0_0 x17_1).f2)] (by rfl) rfl rfl (by (try simp only [List.map_toArray, List.map_cons, List.map_nil]); first | done | rfl | (simp only [List.length_drop, List.length_take]; rfl)) ?_
                        with_reducible refine (strconv_Itoa.calls ((rd_T48 l0_0 x17_1).f2) t157 _ ?hgl_ A18.out).mono ?_
                        case hgl_ => exact HGl.out.below (by repeat (first | (with_reducible first | exact HB.out | apply below_alloc | apply pw_below_drewN | apply below_drew1 | refine below_set ?_ GE148.out | refine below_set ?_ GE154.out) | exact HB.out)) (Nat.le_refl _)
                        rintro e w28 ⟨rfl, hb⟩
                        refine ⟨_, rfl, ?_⟩
                        have n0_ := Aside0.mk (Kd.R_below (by (with_reducible repeat (first | apply Kd.R_alloc | apply Kd.R_drewN | apply Kd.R_drew)); exact HO_5.out) hb)
                        have n1_ := Aside0.mk (blk_below (g := gb148) (o := .cells #[.slice (some ad153) l0_0.length c0_0] 24 (0, 0)) (by (with_reducible repeat (first | refine blk_drewN ?_ _ | refine blk_drew ?_ | refine blk_alloc ?_ _)); exact BK148.out) hb)
                        have n2_ := Aside0.mk (blk_below (g := gb154) (o := .cells #[.int .i64 ((rd_T48 l0_0 x17_1).f0), .int .i64 ((rd_T48 l0_0 x17_1).f1), .int .i64 ((rd_T48 l0_0 x17_1).f2)] 48 (0, 0)) (by (with_reducible repeat (first | refine blk_drewN ?_ _ | refine blk_drew ?_ | refine blk_alloc ?_ _)); exact BK154.out) hb)
                        have n3_ := Aside0.mk (below_step (by repeat (first | (with_reducible first | exact HB.out | apply below_alloc | apply pw_below_drewN | apply below_drew1 | refine below_set ?_ GE148.out | refine below_set ?_ GE154.out) | exact HB.out)) hb)
                        clear HO_5
                        clear BK148
                        clear BK154
                        clear HB
                        have HO_5 := n0_
                        have BK148 := n1_
                        have BK154 := n2_
                        have HB := n3_
                        clear n0_ n1_ n2_ n3_
                        (try clear hb)
                        (try clear hb2)
                        (try clear hk)
                        (try clear hi)
                        refine hK.out _ _ ⟨(blk_cell BK154.out 0).trans rfl, (blk_cell BK154.out 1).trans rfl, (blk_cell BK154.out 2).trans rfl⟩ (fun hHeld => ?_)
                        clear hK K
                        refine norm_ (a' := ?_) ?_ ?_
                        rotate_left
                        · show Act.put _ (some 33) _ = _
                          simp only [Act.put, List.setIfInBounds_toArray, List.set_cons_zero, List.set_cons_succ, i64_w, i32_w]
                          rfl
                        refine pure_ (i := 13) (N := some 34) (v := ?_) (a' := ?_) #[true, true, true, true, true, true, true, true, true, true, true, true, true, true, false, false, false] rfl rfl (any_of HT_.out (by kernel_rfl)) (fun _ _ _ h => h) (Or.inl ⟨by rfl, ?_⟩) ?_ ?_
                        rotate_left
                        · intro w'
                          go_simp
                          with_reducible rfl
                        rotate_left
                        · simp only [Act.put, List.setIfInBounds_toArray, List.set_cons_zero, List.set_cons_succ, i64_w, i32_w]
                          rfl
                        refine one_ (i := 14) (N := some 35) #[true, true, true, true, true, true, true, true, true, true, true, true, true, true, true, false, false] rfl rfl (one_of HT_.out (by kernel_rfl)) (by decide) (fun K hK => ?_)
                        refine value_ (w1 := ?_) (v := ?_) (by rfl) rfl ?_ ?_
                        rotate_left 2
                        · go_simp
                          constructor
                          · rfl
                          · rfl
                        refine hK.out _ _ ⟨(blk_cell (blk_alloc BK154.out _) 0).trans rfl, (blk_cell (blk_alloc BK154.out _) 1).trans rfl, (blk_cell (blk_alloc BK154.out _) 2).trans rfl⟩ (fun hHeld => ?_)
                        clear hK K
                        refine norm_ (a' := ?_) ?_ ?_
                        rotate_left
                        · show Act.put _ (some 35) _ = _
                          simp only [Act.put, List.setIfInBounds_toArray, List.set_cons_zero, List.set_cons_succ, i64_w, i32_w]
                          rfl
                        refine one_ (i := 15) (N := some 36) #[true, true, true, true, true, true, true, true, true, true, true, true, true, true, true, true, false] rfl rfl (one_of HT_.out (by kernel_rfl)) (by decide) (fun K hK => ?_)
                        refine Kd.R_append_step Kd.string (w0 := w) w.heap.size (by rfl) (.tmp 21) (.tmp 35) 97 9 (.string ⟨#[]⟩) 16 rfl Tryd.underlying97 info9 rfl (by decide) (by omega) u5 x5_1 ((((t155 ++ (⟨#[47]⟩ : ByteArray)) ++ t156) ++ (⟨#[47]⟩ : ByteArray)) ++ t157) [.string ((((t155 ++ (⟨#[47]⟩ : ByteArray)) ++ t156) ++ (⟨#[47]⟩ : ByteArray)) ++ t157)] (fun _ => True) (fun _ => False) rfl rfl ?aP (fun _ hk => hk.elim) ?aF ?aO ?aB ?aS ?aL ?_
                        (case aP => exact rfl)
                        (case aB => exact (by repeat (first | (with_reducible first | exact HB.out | apply below_alloc | apply pw_below_drewN | apply below_drew1 | refine below_set ?_ GE148.out | refine below_set ?_ GE154.out) | exact HB.out)))
                        (case aF => exact (fun _ _ => trivial))
                        (case aO => exact (by (with_reducible repeat (first | apply Kd.R_alloc | apply Kd.R_drewN | apply Kd.R_drew)); exact HO_5.out))
                        (case aS => exact (below_size (by repeat (first | (with_reducible first | exact HB.out | apply below_alloc | apply pw_below_drewN | apply below_drew1 | refine below_set ?_ GE148.out | refine below_set ?_ GE154.out) | exact HB.out))))
                        (case aL => have := LMc20.out; omega)
                        intro v159 w29 ho hb hg hat
                        rw [← Ny158.out] at ho
                        have n0_ := Aside0.mk (blk_grown (g := gb148) (o := .cells #[.slice (some ad153) l0_0.length c0_0] 24 (0, 0)) (by (with_reducible repeat (first | refine blk_drewN ?_ _ | refine blk_drew ?_ | refine blk_alloc ?_ _)); exact BK148.out) hg (Kd.R_ne HO_5.out BK148.out (by decide)))
                        have n1_ := Aside0.mk (blk_grown (g := gb154) (o := .cells #[.int .i64 ((rd_T48 l0_0 x17_1).f0), .int .i64 ((rd_T48 l0_0 x17_1).f1), .int .i64 ((rd_T48 l0_0 x17_1).f2)] 48 (0, 0)) (by (with_reducible repeat (first | refine blk_drewN ?_ _ | refine blk_drew ?_ | refine blk_alloc ?_ _)); exact BK154.out) hg (Kd.R_ne HO_5.out BK154.out (by decide)))
                        have n2_ := Aside0.mk (hb)
                        have n3_ := Aside0.mk (ho)
                        clear BK148
                        clear BK154
                        clear HB
                        clear HO_5
                        have BK148 := n0_
                        have BK154 := n1_
                        have HB := n2_
                        have HO160 := n3_
                        clear n0_ n1_ n2_ n3_
                        clear ho hb hg hat
                        refine hK.out _ _ ⟨(blk_cell BK154.out 0).trans rfl, (blk_cell BK154.out 1).trans rfl, (blk_cell BK154.out 2).trans rfl⟩ (fun hHeld => ?_)
                        clear hK K
                        refine norm_ (a' := ?_) ?_ ?_
                        rotate_left
                        · show Act.put _ (some 36) _ = _
                          simp only [Act.put, List.setIfInBounds_toArray, List.set_cons_zero, List.set_cons_succ, i64_w, i32_w]
                          rfl
                        refine pure_ (i := 16) (N := some 5) (v := ?_) (a' := ?_) #[true, true, true, true, true, true, true, true, true, true, true, true, true, true, true, true, true] rfl rfl (any_of HT_.out (by kernel_rfl)) (fun _ _ _ h => h) (Or.inl ⟨by rfl, ?_⟩) ?_ ?_
                        rotate_left
                        · intro w'
                          go_simp
                          with_reducible rfl
                        rotate_left
                        · simp only [Act.put, List.setIfInBounds_toArray, List.set_cons_zero, List.set_cons_succ, i64_w, i32_w]
                          rfl
                        refine done_ (done_of HT_.out (by kernel_rfl)) ?_
                        try go_wp2
                        go_roundg k1
                        case measure => have := HK1.out; omega
                        case rel => exact ⟨(y158), (wrap64 (x17_1 + 1)), (by first | rfl | (simp; done) | (simp [*]; done)), H', ⟨by have := HK1.out; omega⟩, ⟨by (with_reducible repeat (first | apply Kd.R_alloc | apply Kd.R_drewN | apply Kd.R_drew)); exact HO160.out⟩, ⟨by (with_reducible repeat (first | refine blk_drewN ?_ _ | refine blk_drew ?_ | refine blk_alloc ?_ _)); exact BK148.out⟩, ⟨by repeat (first | (with_reducible first | exact HB.out | apply below_alloc | apply pw_below_drewN | apply below_drew1 | refine below_set ?_ GE148.out | refine below_set ?_ GE154.out) | exact HB.out)⟩⟩
                      · rw [if_neg c20] at H
                        exact absurd H (by simp)
                    · rw [if_neg c19] at H
                      exact absurd H (by simp)
                  · rw [if_neg c17] at H
                    exact absurd H (by simp)
                · rw [if_neg c16] at H
                  exact absurd H (by simp)
              · rw [if_neg c14] at H
                exact absurd H (by simp)
            · rw [if_neg c12] at H
              exact absurd H (by simp)
          · rw [if_neg c11] at H
            exact absurd H (by simp)
        · rw [if_neg c10] at H
          have c10b0 : decide (x17_1 < (l0_0.length : Int)) = false := decide_eq_false c10
          clear c10
          replace H := Option.bind_eq_some_iff.mp H
          obtain ⟨t161, A300, H⟩ := H
          replace H : (some (t161, 0)) = some (r1, r2) := H
          have A30 := Aside0.mk A300
          clear A300
          simp only [Option.some.injEq, Prod.mk.injEq] at H
          obtain ⟨rfl, rfl⟩ := H
          obtain ⟨Ao31, co31, eo31⟩ := Kd.R_slice HO_5.out
          subst eo31
          go_wp2_with (first | ((with_reducible refine gate_callee (f := 87) rfl ?_); refine goesL_ (some 39) rfl rfl Tryd.func87 (by kernel_rfl) rfl #[.slice Ao31 x5_1.length co31, .string (⟨#[32]⟩ : ByteArray)] rfl (by (try simp only [List.map_toArray, List.map_cons, List.map_nil]); first | done | rfl | (simp only [List.length_drop, List.length_take]; rfl)) ?_; (with_reducible refine (strings_Join.calls _ _ x5_1 (⟨#[32]⟩ : ByteArray) t161 _ ?side1 ?side2 A30.out).mono ?_); (case side1 => repeat (first | exact (Kd.R_reads' HO_5.out).2.2 | (with_reducible refine Kd.C_alloc ?_ _) | (with_reducible refine Kd.C_drewN ?_ _) | (with_reducible refine Kd.C_drew ?_))); (case side2 => exact (Kd.R_reads' HO_5.out).2.1); rintro e w32 ⟨rfl, hb⟩; refine ⟨_, rfl, ?_⟩; have n0_ := Aside0.mk (Kd.R_below (by (with_reducible repeat (first | apply Kd.R_alloc | apply Kd.R_drewN | apply Kd.R_drew)); exact HO_5.out) hb); have n1_ := Aside0.mk (blk_below (g := gb148) (o := .cells #[.slice A0_0 l0_0.length c0_0] 24 (0, 0)) (by (with_reducible repeat (first | refine blk_drewN ?_ _ | refine blk_drew ?_ | refine blk_alloc ?_ _)); exact BK148.out) hb); have n2_ := Aside0.mk (below_step (by repeat (first | (with_reducible first | exact HB.out | apply below_alloc | apply pw_below_drewN | apply below_drew1 | refine below_set ?_ GE148.out) | exact HB.out)) hb); clear HO_5; clear BK148; clear HB; have HO_5 := n0_; have BK148 := n1_; have HB := n2_; clear n0_ n1_ n2_; (try clear hb); (try clear hb2); (try clear hk); (try clear hi)))
          go_ret2
          exact ⟨by first | rfl | (simp [errW_none, errW_some] <;> rfl) | (simp [*, errW_none, errW_some] <;> rfl), by repeat (first | (with_reducible first | exact HB.out | apply below_alloc | apply pw_below_drewN | apply below_drew1 | refine below_set ?_ GE148.out) | exact HB.out)⟩
  · rw [if_neg c3] at H
    have c3b0 : (t149 == 0) = false := beq_eq_false_iff_ne.mpr c3
    have c3b1 : (t149 != 0) = true := bne_iff_ne.mpr c3
    simp only [Option.some.injEq, Prod.mk.injEq] at H
    obtain ⟨rfl, rfl⟩ := H
    go_enter Tryd.func58, Tryd.ntmps58
    go_wp2_with (first | ((with_reducible refine gate_dst (N := 1) rfl ?_); refine box_event ?hg (N := 1) ?hd (cs := #[.slice A0_0 l0_0.length c0_0]) (t := 24) ?hr ?_; (case hd => rfl); (case hg => rfl); (case hr => first | (go_simp; done) | (go_simp; rfl)); intro gb148 hg w33 hbox hb; have n0_ := Aside0.mk (below_step (by repeat (first | (with_reducible first | exact HB.out | apply below_alloc | apply pw_below_drewN | apply below_drew1) | exact HB.out)) hb); have n1_ := Aside0.mk (hbox); have n2_ := Aside0.mk ((by rw [hg]; exact (below_size (by repeat (first | (with_reducible first | exact HB.out | apply below_alloc | apply pw_below_drewN | apply below_drew1) | exact HB.out))) : w.heap.size ≤ gb148)); have n3_ := Aside0.mk ((by rw [hg]; exact (below_size (by repeat (first | (with_reducible first | exact HB.out | apply below_alloc | apply pw_below_drewN | apply below_drew1) | exact HB.out))) : w.heap.size ≤ gb148)); clear HB; have HB := n0_; have BK148 := n1_; have GW148 := n2_; have GE148 := n3_; clear n0_ n1_ n2_ n3_; clear hb hbox hg; have hcz34_0 : w33.cell? ⟨gb148, 0, none⟩ = some (.slice A0_0 l0_0.length c0_0) := (blk_cell BK148.out 0).trans rfl; have hfz34_0 := blk_frozen BK148.out 0) | ((with_reducible refine gate_callee (f := 25) rfl ?_); refine goesL_ (some 9) rfl rfl Tryd.func25 (by kernel_rfl) rfl #[.agg #[.slice A0_0 l0_0.length c0_0]] rfl (by (try simp only [List.map_toArray, List.map_cons, List.map_nil]); first | done | rfl | (simp only [List.length_drop, List.length_take]; rfl)) ?_; (with_reducible refine (pack_Check.calls k _ _ l0_0 t149 _ ?side1 ?side2 A2.out).mono ?_); (case side1 => repeat (first | exact (Kd.C_below HR0_0.out HB.out) | (with_reducible refine Kd.C_alloc ?_ _) | (with_reducible refine Kd.C_drewN ?_ _) | (with_reducible refine Kd.C_drew ?_))); (case side2 => exact HC0_0.out); rintro e w35 ⟨rfl, hb⟩; refine ⟨_, rfl, ?_⟩; have n0_ := Aside0.mk (blk_below (g := gb148) (o := .cells #[.slice A0_0 l0_0.length c0_0] 24 (0, 0)) (by (with_reducible repeat (first | refine blk_drewN ?_ _ | refine blk_drew ?_ | refine blk_alloc ?_ _)); exact BK148.out) hb); have n1_ := Aside0.mk (below_step (by repeat (first | (with_reducible first | exact HB.out | apply below_alloc | apply pw_below_drewN | apply below_drew1 | refine below_set ?_ GE148.out) | exact HB.out)) hb); clear BK148; clear HB; have BK148 := n0_; have HB := n1_; clear n0_ n1_; (try clear hb); (try clear hb2); (try clear hk); (try clear hi)))
    go_ret2
    exact ⟨by first | rfl | (simp [errW_none, errW_some] <;> rfl) | (simp [*, errW_none, errW_some] <;> rfl), by repeat (first | (with_reducible first | exact HB.out | apply below_alloc | apply pw_below_drewN | apply below_drew1 | refine below_set ?_ GE148.out) | exact HB.out)⟩
end Go.Proofs.YtpldcikmlpegpaaDoor.PB
end
section
namespace Go.Proofs.YtpldcikmlpegpaaDoor.Col
open Go.RowKit Go.Proofs.YtpldcikmlpegpaaDoor.PB Go.Proofs.YtpldcikmlpegpaaDoorW.PrintWords Go.Proofs.YtpldcikmlpegpaaDoorW.PrintLast Go.Proofs.YtpldcikmlpegpaaDoorW.PrintMore
def Row (w : World) (g cap : Nat) (xs : List S48) : Prop :=
  ∃ cur : List Value, w.heap[g]? = some (.cells cur.toArray 48 (0, 0)) ∧ xs.length ≤ cap ∧ cap ≤ maxLen ∧ cur.length = cap * 3 ∧ cur.take (xs.length * 3) = xs.flatMap lcells
theorem reps_flat : ∀ (xs : List S48) (cs : List Value) (W : World) (base : Nat) (ok : Nat → Prop), Reps (k48.M W base ok) 3 xs cs → cs = xs.flatMap lcells := by
  intro xs
  induction xs with
  | nil => intro cs W base ok h; exact List.eq_nil_of_length_eq_zero (by simpa using h.1)
  | cons x xs ih =>
    intro cs W base ok h
    have h0 := k48_openM (h.2 0 x rfl)
    simp only [Nat.zero_mul, List.drop_zero] at h0
    have h1 := ih (cs.drop 3) W base ok ⟨by rw [List.length_drop, h.1, List.length_cons]; omega, fun j p hp => by
      have := h.2 (j + 1) p (by simpa using hp)
      rw [List.drop_drop]
      rwa [show 3 + j * 3 = (j + 1) * 3 by omega]⟩
    rw [List.flatMap_cons, ← h1]
    have e : cs = cs.take 3 ++ cs.drop 3 := (List.take_append_drop 3 cs).symm
    rw [h0] at e
    exact e
theorem flat_reps (xs : List S48) (W : World) (base : Nat) (ok : Nat → Prop) : Reps (k48.M W base ok) 3 xs (xs.flatMap lcells) := by
  refine ⟨flat_len xs, fun j p hp => ?_⟩
  have hj : j < xs.length := (List.getElem?_eq_some_iff.1 hp).1
  have e : ((xs.flatMap lcells).drop (j * 3)).take 3 = lcells p := by
    apply List.ext_getElem?
    intro i
    by_cases hi : i < 3
    · rw [List.getElem?_take_of_lt hi, List.getElem?_drop, flat_get xs j i hj hi, List.getD_eq_getElem?_getD, hp]
      rfl
    · rw [List.getElem?_eq_none (by simp; omega), List.getElem?_eq_none (by simp [lcells]; omega)]
  rw [e]
  exact k48_mkM W base ok p
theorem Row.of_R {w : World} {base : Nat} {v : Value} {xs : List S48} {ok : Nat → Prop} (h : Kd.R k48 48 w base ok v xs) :
    (v = .slice none 0 0 ∧ xs = []) ∨ ∃ g cap, v = .slice (some ⟨g, 0, none⟩) xs.length cap ∧ base ≤ g ∧ Row w g cap xs := by
  obtain ⟨_, inner, ⟨hl, hh⟩, hr⟩ := h
  rcases hh with ⟨rfl, h0⟩ | ⟨g, cap, cur, rfl, hg, hb, hn, hm, hs, ht⟩
  · exact .inl ⟨rfl, List.eq_nil_of_length_eq_zero h0⟩
  · refine .inr ⟨g, cap, rfl, hg, cur.toList, by simpa using hb, hn, hm, by rw [Array.length_toList]; exact hs, ?_⟩
    rw [show xs.length * 3 = xs.length * k48.sz from rfl, ht]
    exact reps_flat xs inner _ _ _ hr
theorem Row.to_R {w : World} {g cap : Nat} {xs : List S48} (h : Row w g cap xs) {base : Nat} (hb : base ≤ g) : Kd.R k48 48 w base (fun _ => True) (.slice (some ⟨g, 0, none⟩) xs.length cap) xs := by
  obtain ⟨cur, h1, h2, h3, h4, h5⟩ := h
  exact ⟨fun _ _ => trivial, xs.flatMap lcells, ⟨flat_len xs, .inr ⟨g, cap, cur.toArray, rfl, hb, h1, h2, h3, by rw [List.size_toArray]; exact h4, h5⟩⟩, flat_reps xs _ _ _⟩
section
variable {w : World} {g cap : Nat} {xs : List S48}
theorem Row.layer (h : Row w g cap xs) (i j : Nat) (hi : i < xs.length) (hj : j < 3) : w.cell? ⟨g, i * 3 + j, none⟩ = (lcells (xs.getD i z48))[j]? := by
  obtain ⟨cur, h1, h2, h3, h4, h5⟩ := h
  rw [blk_cell h1, List.getElem?_toArray, ← flat_get xs i j hi hj, ← h5, List.getElem?_take_of_lt (by omega)]
theorem Row.ice (h : Row w g cap xs) (i : Nat) (hi : i < xs.length) : w.cell? ⟨g, i * 3, none⟩ = some (.int .i64 (xs.getD i z48).f0) := h.layer i 0 hi (by omega)
theorem Row.wet (h : Row w g cap xs) (i : Nat) (hi : i < xs.length) : w.cell? ⟨g, i * 3 + 1, none⟩ = some (.int .i64 (xs.getD i z48).f1) := h.layer i 1 hi (by omega)
theorem Row.cold (h : Row w g cap xs) (i : Nat) (hi : i < xs.length) : w.cell? ⟨g, i * 3 + 2, none⟩ = some (.int .i64 (xs.getD i z48).f2) := h.layer i 2 hi (by omega)
theorem Row.free (h : Row w g cap xs) (k : Nat) : w.frozen? ⟨g, k, none⟩ = false := by obtain ⟨cur, h1, _⟩ := h; exact blk_frozen h1 k
theorem Row.lt (h : Row w g cap xs) : g < w.heap.size := by obtain ⟨cur, h1, _⟩ := h; exact blk_lt h1
theorem Row.le (h : Row w g cap xs) : xs.length ≤ cap := by obtain ⟨cur, _, h2, _⟩ := h; exact h2
theorem Row.max (h : Row w g cap xs) : cap ≤ maxLen := by obtain ⟨cur, _, _, h3, _⟩ := h; exact h3
theorem Row.some_ (h : Row w g cap xs) (k : Nat) (hk : k < cap * 3) : (w.cell? ⟨g, k, none⟩).isSome = true := by
  obtain ⟨cur, h1, h2, h3, h4, h5⟩ := h
  rw [blk_cell h1, List.getElem?_toArray, List.getElem?_eq_getElem (by omega)]
  rfl
theorem Row.drew (h : Row w g cap xs) : Row w.drew g cap xs := h
theorem Row.drewN (h : Row w g cap xs) (n : Nat) : Row (w.drewN n) g cap xs := h
theorem Row.below {w' : World} (h : Row w g cap xs) (hb : Below w.heap.size w w') : Row w' g cap xs := by
  obtain ⟨cur, h1, h2⟩ := h
  exact ⟨cur, blk_below h1 hb, h2⟩
theorem KeepG.setCells (g : Nat) : ∀ (vs : List Value) (o : Nat) (w : World), KeepG g w (w.setCells g o vs)
  | [], _, _ => KeepG.refl _ _
  | v :: r, o, w => (KeepG.set g w o v).trans (KeepG.setCells g r (o + 1) _)
theorem heap_setCells (g : Nat) (t : TypeId) : ∀ (vs : List Value) (o : Nat) (w : World) (cur : List Value), w.heap[g]? = some (.cells cur.toArray t (0, 0)) → o + vs.length ≤ cur.length → (w.setCells g o vs).heap[g]? = some (.cells (splice cur o vs).toArray t (0, 0))
  | [], o, w, cur, h, _ => by simpa [splice, World.setCells] using h
  | v :: r, o, w, cur, h, hl => by
    have h1 := blk_set h o v
    rw [List.setIfInBounds_toArray] at h1
    have ih := heap_setCells g t r (o + 1) (w.setCell ⟨g, o, none⟩ v) (cur.set o v) h1 (by simp at hl ⊢; omega)
    rw [World.setCells, ih]
    have e := list_seg_step cur o v r (by simp at hl; omega)
    unfold splice
    simp only [List.length_cons]
    simp only [List.append_assoc] at e
    rw [e]
theorem Row.lay (h : Row w g cap xs) (o : Nat) (vs : List Value) (ys : List S48) (ho : o + vs.length ≤ cap * 3) (hl : ys.length ≤ cap)
    (e : ∀ cur : List Value, cur.length = cap * 3 → cur.take (xs.length * 3) = xs.flatMap lcells → (splice cur o vs).take (ys.length * 3) = ys.flatMap lcells) : Row (w.setCells g o vs) g cap ys := by
  obtain ⟨cur, h1, h2, h3, h4, h5⟩ := h
  exact ⟨splice cur o vs, heap_setCells g _ vs o w cur h1 (by omega), hl, h3, by rw [length_splice _ _ _ (by omega)]; exact h4, e cur h4 h5⟩
theorem Row.put (h : Row w g cap xs) (i : Nat) (hi : i < xs.length) (x y z : Int) :
    Row (((w.setCell ⟨g, i * 3, none⟩ (.int .i64 x)).setCell ⟨g, i * 3 + 1, none⟩ (.int .i64 y)).setCell ⟨g, i * 3 + 2, none⟩ (.int .i64 z)) g cap (xs.set i ⟨x, y, z⟩) := by
  have hle := h.le
  refine Row.lay h (i * 3) (lcells ⟨x, y, z⟩) (xs.set i ⟨x, y, z⟩) (by simp [lcells]; omega) (by simpa using hle) (fun cur hc ht => ?_)
  have hL : (lcells ⟨x, y, z⟩).length = 3 := rfl
  apply List.ext_getElem?
  intro k
  by_cases hk : k < xs.length * 3
  · rw [List.getElem?_take_of_lt (by simpa using hk)]
    have ek : k = k / 3 * 3 + k % 3 := by omega
    have h3 : k % 3 < 3 := by omega
    have hk3 : k / 3 < xs.length := by omega
    have e2 : ((xs.set i ⟨x, y, z⟩).flatMap lcells)[k]? = (lcells ((xs.set i ⟨x, y, z⟩).getD (k / 3) z48))[k % 3]? := by
      conv => lhs; rw [ek]
      exact flat_get _ _ _ (by simpa using hk3) h3
    have e3 : cur[k]? = (lcells (xs.getD (k / 3) z48))[k % 3]? := by
      have : (cur.take (xs.length * 3))[k]? = cur[k]? := List.getElem?_take_of_lt hk
      rw [← this, ht]
      conv => lhs; rw [ek]
      exact flat_get _ _ _ hk3 h3
    rw [e2]
    unfold splice
    by_cases hki : k / 3 = i
    · rw [List.getElem?_append_right (by simp; omega), List.getElem?_append_left (by simp [hL]; omega)]
      have e4 : k - (cur.take (i * 3)).length = k % 3 := by simp; omega
      rw [e4, hki]
      simp [List.getD_eq_getElem?_getD, hi]
    · have e5 : (xs.set i ⟨x, y, z⟩).getD (k / 3) z48 = xs.getD (k / 3) z48 := by
        simp [List.getD_eq_getElem?_getD, List.getElem?_set_ne (Ne.symm hki)]
      rw [e5, ← e3]
      by_cases hlt : k < i * 3
      · rw [List.getElem?_append_left (by simp; omega), List.getElem?_take_of_lt hlt]
      · rw [List.getElem?_append_right (by simp; omega), List.getElem?_append_right (by simp [hL]; omega), List.getElem?_drop]
        congr 1
        simp [hL]
        omega
  · rw [List.getElem?_eq_none (by simp; omega), List.getElem?_eq_none (by rw [flat_len]; simp; omega)]
end
end Go.Proofs.YtpldcikmlpegpaaDoor.Col
end
section
namespace Go.Proofs.YtpldcikmlpegpaaDoor.Col
open Go.RowKit Go.Proofs.YtpldcikmlpegpaaDoor.PB Go.Proofs.YtpldcikmlpegpaaDoorW.PrintWords Go.Proofs.YtpldcikmlpegpaaDoorW.PrintLast Go.Proofs.YtpldcikmlpegpaaDoorW.PrintMore
theorem run_clear_wide {P : Program} (w : World) (t e ty : TypeId) (z : Value) (ht : P.underlying t = some (.slice e)) (hv : ∀ w, (zeroValue e).run P w = .ok z w) (b o n c : Nat) (hn : 0 < n) (Z : List Value) (hZ : (Builtin.zeroCells z.cells n).toList = Z) (h1 : ∀ v ∈ Z, v.oneCell' = true)
    (hc : ∀ j, j < Z.length → (w.cell? ⟨b, o + j, none⟩).isSome = true) (hf : ∀ j, j < Z.length → w.frozen? ⟨b, o + j, none⟩ = false) :
    (Builtin.clear_ #[t] ty #[.slice (some ⟨b, o, none⟩) n c]).run P w = .ok (.tuple #[]) (w.setCells b o Z) := by
  have hst := run_storeCells_cells (P := P) b o Z 0 w (by simpa using hc) (by simpa using hf) h1
  simp only [Nat.add_zero] at hst
  obtain ⟨m, rfl⟩ : ∃ m, n = m + 1 := ⟨n - 1, by omega⟩
  simp [Builtin.clear_, run_underlying ht, hv, hZ, hst]
theorem zero_layer (w : World) : (zeroValue 48).run Tryd.prog w = .ok (.agg #[.int .i64 0, .int .i64 0, .int .i64 0]) w := by kernel_rfl
theorem zeros_len (n : Nat) : (Builtin.zeroCells (Value.agg #[.int .i64 0, .int .i64 0, .int .i64 0]).cells n).toList.length = n * 3 := by
  simp [Builtin.zeroCells, Value.cells]
theorem zeros_one (n : Nat) : ∀ v ∈ (Builtin.zeroCells (Value.agg #[.int .i64 0, .int .i64 0, .int .i64 0]).cells n).toList, v.oneCell' = true := by
  intro v hv
  simp only [Builtin.zeroCells, Value.cells, Array.toList_map, List.mem_map] at hv
  obtain ⟨i, _, rfl⟩ := hv
  have h3 : i % 3 = 0 ∨ i % 3 = 1 ∨ i % 3 = 2 := by omega
  show ((#[Value.int .i64 0, .int .i64 0, .int .i64 0] : Array Value)[i % 3]!).oneCell' = true
  rcases h3 with h | h | h <;> rw [h] <;> rfl
theorem flat_drop (xs : List S48) : ∀ (i : Nat), (xs.drop i).flatMap lcells = (xs.flatMap lcells).drop (i * 3) := by
  induction xs with
  | nil => intro i; simp
  | cons x xs ih =>
    intro i
    cases i with
    | zero => simp
    | succ i =>
      rw [List.drop_succ_cons, ih, List.flatMap_cons, List.drop_append]
      have e1 : (lcells x).drop ((i + 1) * 3) = [] := List.drop_eq_nil_of_le (by simp [lcells]; omega)
      have e2 : (i + 1) * 3 - (lcells x).length = i * 3 := by simp [lcells]; omega
      rw [e1, e2, List.nil_append]
theorem flat_take (xs : List S48) : ∀ (i : Nat), (xs.take i).flatMap lcells = (xs.flatMap lcells).take (i * 3) := by
  induction xs with
  | nil => intro i; simp
  | cons x xs ih =>
    intro i
    cases i with
    | zero => simp
    | succ i =>
      rw [List.take_succ_cons, List.flatMap_cons, ih, List.flatMap_cons, List.take_append]
      have e1 : (lcells x).take ((i + 1) * 3) = lcells x := List.take_of_length_le (by simp [lcells]; omega)
      have e2 : (i + 1) * 3 - (lcells x).length = i * 3 := by simp [lcells]; omega
      rw [e1, e2]
set_option maxHeartbeats 4000000 in
set_option maxRecDepth 1000000 in
theorem delete_calls (g cap i j : Nat) (xs : List S48) (w : World) (hr : Row w g cap xs) (hij : i < j) (hj : j ≤ xs.length) :
    Calls Tryd.prog 70 #[.slice (some ⟨g, 0, none⟩) xs.length cap, .int .i64 i, .int .i64 j] w fun e w' => e = .returned (.slice (some ⟨g, 0, none⟩) (i + (xs.length - j)) cap) ∧ Row w' g cap (xs.take i ++ xs.drop j) ∧ KeepG g w w' := by
  have hcap : xs.length ≤ cap := hr.le
  have hmax : cap ≤ 9223372036854775807 := by have := hr.max; unfold maxLen at this; omega
  obtain ⟨i0, hi0, hz0, hz1, hz2⟩ := info_parts info48
  obtain ⟨n, hn⟩ : ∃ n, xs.length = n := ⟨_, rfl⟩
  obtain ⟨news, hnews⟩ : ∃ news, (xs.drop j).flatMap lcells = news := ⟨_, rfl⟩
  have hlen : news.length = (n - j) * 3 := by rw [← hnews, flat_len, List.length_drop, hn]
  obtain ⟨A, hA, hsrc⟩ : ∃ A : Addr, (if cap = j then some (⟨g, 0, none⟩ : Addr) else some ⟨g, j * 3, none⟩) = some A ∧ Hid (∀ t u, news[t]? = some u → w.drew.cell? (A.add t) = some u) := by
    by_cases h : cap = j
    · refine ⟨⟨g, 0, none⟩, by simp [h], fun t u hu => ?_⟩
      have h0 : news.length = 0 := by rw [hlen]; omega
      rw [List.length_eq_zero_iff.1 h0] at hu
      simp at hu
    · refine ⟨⟨g, j * 3, none⟩, by simp [h], fun t u hu => ?_⟩
      have ht : t < (n - j) * 3 := by have := (List.getElem?_eq_some_iff.1 hu).1; rwa [hlen] at this
      rw [Addr.add_lit]
      have e : j * 3 + t = (j + t / 3) * 3 + t % 3 := by omega
      rw [e]
      show w.cell? _ = _
      rw [hr.layer (j + t / 3) (t % 3) (by omega) (by omega), ← flat_get xs _ _ (by omega) (by omega), ← e, ← hu, ← hnews, flat_drop, List.getElem?_drop]
  have s1 : Hid (news.length = (n - j) * 3) := hlen
  have s2 : Hid (∀ u ∈ news, u.oneCell' = true) := by rw [← hnews]; exact flat_one _
  have s3 : Hid (∀ t, t < news.length → (w.drew.cell? ⟨g, 0 + i * 3 + t, none⟩).isSome = true ∧ w.drew.frozen? ⟨g, 0 + i * 3 + t, none⟩ = false) := by
    intro t ht
    rw [hlen] at ht
    exact ⟨hr.some_ _ (by omega), hr.free _⟩
  obtain ⟨W1, hW1⟩ : ∃ W1, W1 = w.drew.setCells g (0 + i * 3) news := ⟨_, rfl⟩
  have hlast : i + (n - j) < n := by omega
  have hr1 : Row W1 g cap (xs.take i ++ xs.drop j) := by
    rw [hW1]
    refine hr.drew.lay (0 + i * 3) news (xs.take i ++ xs.drop j) (by omega) (by simp; omega) (fun cur hc ht => ?_)
    have e1 : (xs.take i ++ xs.drop j).length * 3 = i * 3 + news.length := by rw [hlen]; simp; omega
    rw [e1, List.flatMap_append, hnews, flat_take, ← ht]
    unfold splice
    rw [Nat.zero_add, ← List.append_assoc, List.take_append_of_le_length (by simp; omega), List.take_of_length_le (by simp; omega), List.take_take]
    rw [hn, Nat.min_eq_left (by omega)]
  have K1 : Aside0 (KeepG g w W1) := ⟨by rw [hW1]; exact (KeepG.drew g w).trans (KeepG.setCells _ _ _ _)⟩
  have hl1 : (xs.take i ++ xs.drop j).length = i + (n - j) := by simp; omega
  obtain ⟨Z, hZ⟩ : ∃ Z, (Builtin.zeroCells (Value.agg #[.int .i64 0, .int .i64 0, .int .i64 0]).cells (n - (i + (n - j)))).toList = Z := ⟨_, rfl⟩
  have hZl : Z.length = (n - (i + (n - j))) * 3 := by rw [← hZ]; exact zeros_len _
  have hcl : ∀ ty, (Builtin.clear_ #[22] ty #[.slice (some ⟨g, (i + (n - j)) * 3, none⟩) (n - (i + (n - j))) (cap - (i + (n - j)))]).run Tryd.prog W1 = .ok (.tuple #[]) (W1.setCells g ((i + (n - j)) * 3) Z) :=
    fun ty => run_clear_wide W1 _ _ ty _ Tryd.underlying22 zero_layer g ((i + (n - j)) * 3) _ _ (by omega) Z hZ (by rw [← hZ]; exact zeros_one _) (fun t ht => hr1.some_ _ (by omega)) (fun t ht => hr1.free _)
  have R2 : Aside0 (Row (W1.setCells g ((i + (n - j)) * 3) Z) g cap (xs.take i ++ xs.drop j)) := by
    refine ⟨hr1.lay _ Z _ (by omega) (by omega) (fun cur hc ht => ?_)⟩
    unfold splice
    rw [hl1] at ht ⊢
    rw [List.take_append_of_le_length (by simp; omega), List.take_take, Nat.min_self]
    exact ht
  have hW : Hid (W1 = w.drew.setCells g (0 + i * 3) news) := hW1
  have hic : i ≤ cap := by omega
  have hjc : j ≤ cap := by omega
  rw [hn] at hj hcap ⊢
  have i1 : (0 : Int) ≤ (i : Int) := by omega
  have i2 : (i : Int) ≤ (j : Int) := by omega
  have i3 : (j : Int) ≤ (n : Int) := by omega
  have i4 : (n : Int) ≤ (cap : Int) := by omega
  have z0 : ((i : Int) == (j : Int)) = false := by simp; omega
  clear hW1 hr1 hr hlen hnews hl1 hZ hZl hn
  go_enter Tryd.func70, Tryd.ntmps70
  go_upto_region 5 with (fail)
  go_region_law (refine step_append_room rfl (.tmp 22) (.tmp 25) 22 rfl 48 i0 3 Tryd.underlying22 hi0 hz1 g 0 i cap (by simp [Act.eval, Act.put]) A (n - j) (cap - j) news (by simp [Act.eval, Act.put]) s1.out hsrc.out s2.out (by omega) s3.out ?_; rw [← hW.out])
  go_wp2
  go_ret
  exact ⟨rfl, R2.out, K1.out.trans (KeepG.setCells _ _ _ _)⟩
theorem delete_calls' (g cap i j n : Nat) (I J : Int) (xs : List S48) (w : World) (hn : xs.length = n) (hI : I = (i : Int)) (hJ : J = (j : Int)) (hr : Row w g cap xs) (hij : i < j) (hj : j ≤ n) :
    Calls Tryd.prog 70 #[.slice (some ⟨g, 0, none⟩) n cap, .int .i64 I, .int .i64 J] w fun e w' => e = .returned (.slice (some ⟨g, 0, none⟩) (i + (n - j)) cap) ∧ Row w' g cap (xs.take i ++ xs.drop j) ∧ KeepG g w w' := by
  subst hn hI hJ
  exact delete_calls g cap i j xs w hr hij hj
set_option maxHeartbeats 1000000 in
set_option maxRecDepth 100000 in
theorem clone_calls (A : Option Addr) (cap : Nat) (l : List S48) (w : World) (hr : Kd.C k48 w A l.length l) (hl : l.length ≤ 64) :
    Calls Tryd.prog 68 #[.slice A l.length cap] w fun e w' => ∃ v, e = .returned v ∧ Kd.R k48 48 w' w.heap.size (fun _ => True) v l ∧ Below w.heap.size w w' := by
  have HR := Aside0.mk hr
  have HL := Aside0.mk hl
  have heq := fun (w : World) => Lib.run_eql_slice_nil (P := Tryd.prog) w 22 48 A l.length cap 0 0 Tryd.underlying22
  clear hr hl
  cases A with
  | none =>
    have H0 : Aside0 (l = []) := ⟨by
      cases l with
      | nil => rfl
      | cons x xs => obtain ⟨ad, e, _⟩ := HR.out.2.2 (by simp); cases e⟩
    simp only [Option.isNone_none] at heq
    go_enter Tryd.func68, Tryd.ntmps68
    go_wp2
    go_ret
    obtain rfl := H0.out
    exact ⟨_, rfl, Kd.R_nil _ _ _ _ _, Below.refl _ _⟩
  | some a =>
    simp only [Option.isNone_some] at heq
    go_enter Tryd.func68, Tryd.ntmps68
    go_wp2_with (first | ((with_reducible refine gate_dst (N := 5) rfl ?_); refine Kd.R_lit k48 _ 48 ?hg (N := 5) ?hd (xs := ([] : List (S48))) (inner := []) (ok := fun _ => True) (okp := fun _ => True) ?hr ?hp (fun _ hk => hk) trivial (Below.refl _ _) (Nat.le_refl _) (by simp) ?_; (case hd => rfl); (case hg => rfl); (case hr => first | (go_simp; done) | (go_simp; rfl)); (case hp => exact (Reps.none _ _)); intro v1 w4 ho5 hb hg_ hnew_; have HO := Aside0.mk ho5; have HB := Aside0.mk hb; clear hg_ hnew_ hb ho5) | ((with_reducible refine gate_builtin (b := .append) (xs := #[.tmp 5, .tmp 6]) rfl ?_); at_builtin; refine Kd.R_append_rows k48 (w0 := w) w.heap.size rfl (.tmp 5) (.tmp 6) 22 48 (.agg #[(.int .i64 0), (.int .i64 0), (.int .i64 0)]) 24 rfl Tryd.underlying22 info48 rfl (by decide) (by omega) v1 [] l _ _ _ (fun _ => True) (fun _ => False) rfl rfl HO.out (Kd.C_below HR.out HB.out) (fun _ _ h => h) (fun _ h => h.elim) (fun _ _ => trivial) HB.out HB.out.size ?aL ?_; (case aL => have := HL.out; simp only [List.length_nil]; omega); intro v2 w6 ho hb hg hat; have HO6 := Aside0.mk ho; have HB6 := Aside0.mk hb; clear ho hb hg hat))
    go_ret
    exact ⟨_, rfl, HO6.out, HB6.out⟩
end Go.Proofs.YtpldcikmlpegpaaDoor.Col
end
section
namespace Go.Proofs.YtpldcikmlpegpaaDoor.PB
open Go.RowKit Go.Proofs.YtpldcikmlpegpaaDoor.Col Go.Proofs.YtpldcikmlpegpaaDoorW.PrintWords Go.Proofs.YtpldcikmlpegpaaDoorW.PrintLast Go.Proofs.YtpldcikmlpegpaaDoorW.PrintMore
attribute [local go_sem] max2_int min2_int max_two min_two
def joinW (a b : S48) : S48 :=
  ⟨wrap64 ((wrap64 (a.f0 + b.f0)) + (mn (wrap64 (a.f1 + b.f1)) (wrap64 (a.f2 + b.f2)))), wrap64 ((wrap64 (a.f1 + b.f1)) - (mn (wrap64 (a.f1 + b.f1)) (wrap64 (a.f2 + b.f2)))), wrap64 ((wrap64 (a.f2 + b.f2)) - (mn (wrap64 (a.f1 + b.f1)) (wrap64 (a.f2 + b.f2))))⟩
theorem joined_calls (a b : S48) (w : World) :
    Calls Tryd.prog 69 #[.agg #[.int .i64 a.f0, .int .i64 a.f1, .int .i64 a.f2], .agg #[.int .i64 b.f0, .int .i64 b.f1, .int .i64 b.f2]] w fun e w' => e = .returned (.agg #[.int .i64 (joinW a b).f0, .int .i64 (joinW a b).f1, .int .i64 (joinW a b).f2]) ∧ Below w.heap.size w w' :=
  pack_joined.calls a.f0 a.f1 a.f2 b.f0 b.f1 b.f2 _ _ _ w rfl
def pairW (xs : List S48) (i : Nat) : Int := wrap64 ((xs.getD i z48).f0 + (xs.getD (i + 1) z48).f0)
def leastW (xs : List S48) : Nat → Nat → Nat → Nat
  | 0, _, a => a
  | d + 1, i, a => leastW xs d (i + 1) (if pairW xs i < pairW xs a then i else a)
def joinOnce (xs : List S48) : List S48 :=
  let a := leastW xs (xs.length - 1) 0 0
  let ys := xs.set a (joinW (xs.getD a z48) (xs.getD (a + 1) z48))
  ys.take (a + 1) ++ ys.drop (a + 2)
def joinsW (n : Int) : Nat → List S48 → List S48
  | 0, xs => xs
  | k + 1, xs => if n < (xs.length : Int) then joinsW n k (joinOnce xs) else xs
def pack_Joined.f (l : List S48) (n : Int) : Option (List S48 × Int) :=
  (pack_Check.f 200 l).bind fun e => if e = 0 then (if 1 ≤ n ∧ n ≤ 64 then some (joinsW n l.length l, 0) else some ([], 1)) else some ([], e)
theorem wrap_small (x : Int) (h0 : -9223372036854775808 ≤ x) (h1 : x ≤ 9223372036854775807) : wrap64 x = x := by
  unfold wrap64
  omega
theorem drewN_two (w : World) (a b : Nat) : (w.drewN a).drewN b = w.drewN (a + b) := by
  simp [World.drewN, Nat.add_assoc]
set_option maxRecDepth 100000 in
set_option maxHeartbeats 4000000 in
theorem pack_Joined.calls (A0_0 : Option Addr) (c0_0 : Nat) (l0_0 : List (S48)) (a1 : Int) (r1 : List (S48)) (r2 : Int) (w : World) (hr0_0 : Kd.C k48 w A0_0 l0_0.length l0_0) (hc0_0 : l0_0.length ≤ c0_0) (h : pack_Joined.f l0_0 a1 = some (r1, r2)) :
    Calls Tryd.prog 29 #[.agg #[.slice A0_0 l0_0.length c0_0], .int .i64 a1] w fun e w' => ∃ v0_ : Value, e = .returned (.tuple #[.agg #[v0_], .int .i64 r2]) ∧ Kd.R k48 48 w' w.heap.size (fun _ => True) v0_ r1 ∧ Below w.heap.size w w' := by
  have hu24 := Tryd.underlying24
  have hu48 := Tryd.underlying48
  have HR := Aside0.mk hr0_0
  have HC := Aside0.mk hc0_0
  clear hr0_0 hc0_0
  unfold pack_Joined.f at h
  replace h := Option.bind_eq_some_iff.mp h
  obtain ⟨e1, E1, h⟩ := h
  have HE1 := Aside0.mk E1
  have HH := Aside0.mk h
  clear E1 h
  go_enter Tryd.func29, Tryd.ntmps29
  go_upto_region 1 with (fail)
  obtain ⟨B, hB⟩ : ∃ B, w.heap.size = B := ⟨_, rfl⟩
  obtain ⟨V1, hV1⟩ : ∃ W1, w.alloc (.cells #[.slice A0_0 l0_0.length c0_0] 24 (0, 0)) = W1 := ⟨_, rfl⟩
  obtain ⟨W1, hW1⟩ : ∃ W1, V1.alloc (.cells #[.slice none 0 0] 24 (0, 0)) = W1 := ⟨_, rfl⟩
  have s1 : V1.heap.size = B + 1 := by rw [← hV1, ← hB]; simp
  have s3 : W1.heap.size = B + 2 := by rw [← hW1]; simp [s1]
  have b1 : Below B w V1 := by rw [← hV1, ← hB]; exact (Below.refl _ _).alloc (Nat.le_refl _) _
  have b3 : Below B w W1 := by rw [← hW1]; exact b1.alloc (by omega) _
  have p0 : W1.heap[B]? = some (.cells #[.slice A0_0 l0_0.length c0_0] 24 (0, 0)) := by rw [← hW1]; refine blk_alloc ?_ _; rw [← hV1, ← hB]; exact blk_new _ _
  have p2 : W1.heap[B + 1]? = some (.cells #[.slice none 0 0] 24 (0, 0)) := by rw [← hW1, ← s1]; exact blk_new _ _
  rw [hV1, hW1, hB]
  have K : Aside0 (∀ wX : World, Below W1.heap.size W1 wX → wX.heap[B]? = some (.cells #[.slice A0_0 l0_0.length c0_0] 24 (0, 0)) ∧ wX.heap[B + 1]? = some (.cells #[.slice none 0 0] 24 (0, 0))) :=
    ⟨fun wX hb => ⟨blk_below p0 hb, blk_below p2 hb⟩⟩
  have HS3 := Aside0.mk s3
  have HB3 := Aside0.mk b3
  have HBq := Aside0.mk hB
  have F : Aside0 (∀ (wX : World) (v : Value), Below W1.heap.size W1 wX → Below w.heap.size w (wX.setCell ⟨B + 1, 0, none⟩ v)) :=
    ⟨fun wX v hb => by rw [HBq.out]; exact (HB3.out.trans (hb.mono (by rw [HS3.out]; omega))).setCell (p := ⟨B + 1, 0, none⟩) (by show B ≤ B + 1; omega) v⟩
  have q0 : W1.cell? ⟨B, 0, none⟩ = some (.slice A0_0 l0_0.length c0_0) := (blk_cell p0 0).trans rfl
  have HR1 : Aside0 (Kd.C k48 W1 A0_0 l0_0.length l0_0) := ⟨Kd.C_below HR.out (by rw [HBq.out]; exact HB3.out)⟩
  clear hV1 hW1 s1 s3 b1 b3 p0 p2 hB
  go_upto_if 13 with (first | (go_at_call 25; refine (pack_Check.calls 200 A0_0 c0_0 l0_0 e1 _ HR1.out HC.out HE1.out).mono ?_; rintro e w7 ⟨rfl, hb⟩; have HB7 := Aside0.mk hb; clear hb q0))
  by_cases h1 : e1 = 0
  · have z0 : (e1 != 0) = false := by simp [h1]
    have h2 := HH.out
    rw [if_pos h1] at h2
    by_cases hn : 1 ≤ a1 ∧ a1 ≤ 64
    · rw [if_pos hn] at h2
      simp only [Option.some.injEq, Prod.mk.injEq] at h2
      obtain ⟨h3, rfl⟩ := h2
      have H3 := Aside0.mk h3
      have HN := Aside0.mk hn
      have HL : Aside0 (l0_0.length ≤ 64) := ⟨by
        have := HE1.out
        rw [h1] at this
        unfold pack_Check.f at this
        split at this
        · simp at this
        · omega⟩
      have hpf : Aside0 (pack_from.f a1 1 64 = some true) := ⟨by unfold pack_from.f; rw [if_pos hn.1]; simp [hn.2]⟩
      clear h3 hn h1
      obtain ⟨k0, k2⟩ := K.out _ HB7.out
      have q7 : w7.cell? ⟨B, 0, none⟩ = some (.slice A0_0 l0_0.length c0_0) := (blk_cell k0 0).trans rfl
      clear k0 k2
      go_upto_region 6 with (first | (go_at_call 67; refine (pack_from.calls a1 1 64 true _ hpf.out).mono ?_; rintro e w8 ⟨rfl, ⟨nd, rfl⟩⟩))
      have HB8 := Aside0.mk (pw_below_drewN HB7.out nd)
      have q8 : (w7.drewN nd).cell? ⟨B, 0, none⟩ = some (.slice A0_0 l0_0.length c0_0) := q7
      generalize w7.drewN nd = w8 at HB8 q8 ⊢
      clear q7
      go_wp2_with (first | (go_at_call 68; refine (clone_calls A0_0 c0_0 l0_0 _ (Kd.C_below HR1.out HB8.out) HL.out).mono ?_; rintro e w9 ⟨v, rfl, hO, hb⟩; obtain ⟨A2, c2, rfl⟩ := Kd.R_slice hO; have HO := Aside0.mk (Kd.R_lower hO HB8.out.size); have HB9 := Aside0.mk (below_step HB8.out hb); clear hO hb q8))
      go_loopg [7] l0_0.length (fun dq v7 w' => ∃ (xs : List S48) (A : Option Addr) (c : Nat), v7 = .slice A xs.length c ∧ dq = xs.length ∧ xs.length ≤ 64 ∧ Aside0 (joinsW a1 dq xs = r1) ∧ Aside0 (Kd.R k48 48 w' W1.heap.size (fun _ => True) (.slice A xs.length c) xs) ∧ Aside0 (Below W1.heap.size W1 w'))
      case atStart => exact ⟨l0_0, A2, c2, rfl, rfl, HL.out, H3, HO, HB9⟩
      case round =>
        obtain ⟨xs, A, c, rfl, hdq, hx64, HE, HX, HBx⟩ := hrel
        by_cases hgt : a1 < (xs.length : Int)
        · have t1 : decide (a1 < (xs.length : Int)) = true := decide_eq_true hgt
          have hx2 : 2 ≤ xs.length := by have := HN.out; omega
          obtain ⟨g, cap, hv, hg, hrow⟩ : ∃ g cap, (.slice A xs.length c : Value) = .slice (some ⟨g, 0, none⟩) xs.length cap ∧ W1.heap.size ≤ g ∧ Row wr g cap xs := by
            rcases Row.of_R HX.out with ⟨_, h0⟩ | h0
            · rw [h0] at hx2; simp at hx2
            · exact h0
          injection hv with hA _ hc
          subst hA hc
          have HRW := Aside0.mk hrow
          have HG := Aside0.mk hg
          have hcap : xs.length ≤ c := hrow.le
          clear hrow hgt
          go_wp2
          obtain ⟨wo, rfl⟩ : ∃ wo : World, wo = wr := ⟨_, rfl⟩
          obtain ⟨gko, hgko⟩ : ∃ k, k = gk := ⟨_, rfl⟩
          rw [← hgko] at hdq HE
          have HGK := Aside0.mk hgko
          clear hgko
          obtain ⟨n, hn⟩ : ∃ n, xs.length = n := ⟨_, rfl⟩
          rw [hn] at hx2 hx64 hcap ⊢
          have HNN := Aside0.mk hn
          clear hn hg
          go_loopg [8, 30] (n - 1) (fun dq v8 v30 w' => ∃ (a i m : Nat), v8 = .int .i64 a ∧ v30 = .int .i64 i ∧ dq = n - 1 - i ∧ i ≤ n - 1 ∧ a + 1 < n ∧ Aside0 (leastW xs dq i a = leastW xs (n - 1) 0 0) ∧ Aside0 (w' = wo.drewN m))
          case atStart => exact ⟨0, 0, 0, rfl, rfl, rfl, Nat.zero_le _, by omega, ⟨rfl⟩, ⟨rfl⟩⟩
          case round =>
            obtain ⟨a, i, m, rfl, rfl, hdi, hi, ha, HI, HM⟩ := hrel
            obtain rfl := HM.out
            by_cases hlt : (i : Int) < (n : Int) - 1
            · have t2 : decide ((i : Int) < (n : Int) - 1) = true := decide_eq_true hlt
              have c1 := HRW.out.ice i (by rw [HNN.out]; omega)
              have c2' := HRW.out.ice (i + 1) (by rw [HNN.out]; omega)
              have c3 := HRW.out.ice a (by rw [HNN.out]; omega)
              have c4 := HRW.out.ice (a + 1) (by rw [HNN.out]; omega)
              obtain ⟨x1, hx1⟩ : ∃ x, (xs.getD i z48).f0 = x := ⟨_, rfl⟩
              obtain ⟨x2, hx2'⟩ : ∃ x, (xs.getD (i + 1) z48).f0 = x := ⟨_, rfl⟩
              obtain ⟨x3, hx3⟩ : ∃ x, (xs.getD a z48).f0 = x := ⟨_, rfl⟩
              obtain ⟨x4, hx4⟩ : ∃ x, (xs.getD (a + 1) z48).f0 = x := ⟨_, rfl⟩
              rw [hx1] at c1
              rw [hx2'] at c2'
              rw [hx3] at c3
              rw [hx4] at c4
              have HP1 : Aside0 (pairW xs i = wrap64 (x1 + x2)) := ⟨by simp only [pairW, hx1, hx2']⟩
              have HP2 : Aside0 (pairW xs a = wrap64 (x3 + x4)) := ⟨by simp only [pairW, hx3, hx4]⟩
              have i0 : (0 : Int) ≤ (i : Int) := by omega
              have i1 : (i : Int) < (n : Int) := by omega
              have i2 : (0 : Int) ≤ (i : Int) + 1 := by omega
              have i3 : (i : Int) + 1 < (n : Int) := by omega
              have a0 : (0 : Int) ≤ (a : Int) := by omega
              have a1' : (a : Int) < (n : Int) := by omega
              have a2 : (0 : Int) ≤ (a : Int) + 1 := by omega
              have a3 : (a : Int) + 1 < (n : Int) := by omega
              have e1' : IntKind.i64.wrap ((i : Int) + 1) = (i : Int) + 1 := by have := wrap_small ((i : Int) + 1) (by omega) (by omega); simpa [i64_w] using this
              have e2 : IntKind.i64.wrap ((a : Int) + 1) = (a : Int) + 1 := by have := wrap_small ((a : Int) + 1) (by omega) (by omega); simpa [i64_w] using this
              have e3 : ((i : Int) + 1).toNat = i + 1 := by omega
              have e4 : ((a : Int) + 1).toNat = a + 1 := by omega
              clear hx1 hx2' hx3 hx4
              go_upto_region 12 with (fail)
              go_quiet (fail)
              (try simp only [i64_w])
              by_cases hp : wrap64 (x1 + x2) < wrap64 (x3 + x4)
              · have z1 : decide (wrap64 (x1 + x2) < wrap64 (x3 + x4)) = true := decide_eq_true hp
                have HPP : Aside0 (pairW xs i < pairW xs a) := ⟨by rw [HP1.out, HP2.out]; exact hp⟩
                rw [z1]
                clear hp z1 c1 c2' c3 c4 e1' e2 e3 e4
                go_wp2
                go_roundg (n - 1 - (i + 1))
                case measure => omega
                case rel =>
                  refine ⟨i, i + 1, m + nq, rfl, by go_num, rfl, by omega, by omega, ⟨?_⟩, ⟨by first | rfl | exact drewN_two _ _ _⟩⟩
                  have e : n - 1 - i = (n - 1 - (i + 1)) + 1 := by omega
                  rw [← HI.out, hdi, e]
                  simp only [leastW, if_pos HPP.out]
              · have z1 : decide (wrap64 (x1 + x2) < wrap64 (x3 + x4)) = false := decide_eq_false hp
                have HPP : Aside0 (¬ pairW xs i < pairW xs a) := ⟨by rw [HP1.out, HP2.out]; exact hp⟩
                rw [z1]
                clear hp z1 c1 c2' c3 c4 e1' e2 e3 e4
                go_wp2
                go_roundg (n - 1 - (i + 1))
                case measure => omega
                case rel =>
                  refine ⟨a, i + 1, m + nq, rfl, by go_num, rfl, by omega, by omega, ⟨?_⟩, ⟨by first | rfl | exact drewN_two _ _ _⟩⟩
                  have e : n - 1 - i = (n - 1 - (i + 1)) + 1 := by omega
                  rw [← HI.out, hdi, e]
                  simp only [leastW, if_neg (show ¬ pairW xs i < pairW xs a by have := HPP.out; omega)]
            · have t2 : decide ((i : Int) < (n : Int) - 1) = false := decide_eq_false hlt
              have HA : Aside0 (leastW xs (xs.length - 1) 0 0 = a) := ⟨by
                have h5 := HI.out
                have e : gk = 0 := by omega
                rw [e] at h5
                rw [HNN.out, ← h5]
                rfl⟩
              obtain ⟨W5, hW5⟩ : ∃ W5, wo.drewN m = W5 := ⟨_, rfl⟩
              have HRX : Aside0 (Row W5 g c xs) := ⟨by rw [← hW5]; exact HRW.out.drewN m⟩
              have HBX : Aside0 (Below W1.heap.size W1 W5) := ⟨by rw [← hW5]; exact pw_below_drewN HBx.out m⟩
              rw [hW5]
              clear hW5 hlt
              have x0' := HRX.out.ice a (by rw [HNN.out]; omega)
              have x1' := HRX.out.wet a (by rw [HNN.out]; omega)
              have x2' := HRX.out.cold a (by rw [HNN.out]; omega)
              have y0' := HRX.out.ice (a + 1) (by rw [HNN.out]; omega)
              have y1' := HRX.out.wet (a + 1) (by rw [HNN.out]; omega)
              have y2' := HRX.out.cold (a + 1) (by rw [HNN.out]; omega)
              obtain ⟨x, hx⟩ : ∃ x, xs.getD a z48 = x := ⟨_, rfl⟩
              obtain ⟨y, hy⟩ : ∃ x, xs.getD (a + 1) z48 = x := ⟨_, rfl⟩
              rw [hx] at x0' x1' x2'
              rw [hy] at y0' y1' y2'
              have HXX := Aside0.mk hx
              have HYY := Aside0.mk hy
              have a0 : (0 : Int) ≤ (a : Int) := by omega
              have a1' : (a : Int) < (n : Int) := by omega
              have a2 : (0 : Int) ≤ (a : Int) + 1 := by omega
              have a3 : (a : Int) + 1 < (n : Int) := by omega
              have e2 : IntKind.i64.wrap ((a : Int) + 1) = (a : Int) + 1 := by have := wrap_small ((a : Int) + 1) (by omega) (by omega); simpa [i64_w] using this
              have e4 : ((a : Int) + 1).toNat = a + 1 := by omega
              have hf := HRX.out.free
              clear hx hy
              go_upto_region 15 with (fail)
              go_region_with (go_at_call 69; (with_reducible refine (joined_calls x y _).mono ?_); rintro e w6 ⟨rfl, hb⟩; have HB6 : Aside0 (Below W5.heap.size W5 w6) := ⟨Below.trans ((Below.refl _ _).drew) hb⟩; have hf6 := (HRX.out.below HB6.out).free; have x06 := pw_cell_below HB6.out x0'; have x16 := pw_cell_below HB6.out x1'; have x26 := pw_cell_below HB6.out x2'; clear hb)
              all_goals
                have HR7 := (HRX.out.below HB6.out).put a (by rw [HNN.out]; omega) (joinW x y).f0 (joinW x y).f1 (joinW x y).f2
                have HK7 : KeepG g w6 (((w6.setCell ⟨g, a * 3, none⟩ (.int .i64 (joinW x y).f0)).setCell ⟨g, a * 3 + 1, none⟩ (.int .i64 (joinW x y).f1)).setCell ⟨g, a * 3 + 2, none⟩ (.int .i64 (joinW x y).f2)) := ((KeepG.set _ _ _ _).trans (KeepG.set _ _ _ _)).trans (KeepG.set _ _ _ _)
                generalize ((w6.setCell ⟨g, a * 3, none⟩ (.int .i64 (joinW x y).f0)).setCell ⟨g, a * 3 + 1, none⟩ (.int .i64 (joinW x y).f1)).setCell ⟨g, a * 3 + 2, none⟩ (.int .i64 (joinW x y).f2) = W7 at HR7 HK7 ⊢
                obtain ⟨ys, hys⟩ : ∃ ys, xs.set a ⟨(joinW x y).f0, (joinW x y).f1, (joinW x y).f2⟩ = ys := ⟨_, rfl⟩
                rw [hys] at HR7
                have HY : Aside0 (ys.length = n) := ⟨by rw [← hys, List.length_set]; exact HNN.out⟩
                have HJ : Aside0 (joinOnce xs = ys.take (a + 1) ++ ys.drop (a + 2)) := ⟨by
                  simp only [joinOnce, HA.out, HXX.out, HYY.out]
                  rw [← hys]⟩
                have HRY := Aside0.mk HR7
                have HB7' : Aside0 (Below W1.heap.size W1 W7) := ⟨HK7.below (below_step HBX.out HB6.out) HG.out (below_step HBX.out HB6.out).size⟩
                clear HR7 HK7 hys x0' x1' x2' y0' y1' y2' hf hf6 x06 x16 x26 e2 e4
                go_wp2_with (first | (go_at_call 70; refine (delete_calls' g c (a + 1) (a + 2) n _ _ ys _ HY.out (by omega) (by omega) HRY.out (by omega) (by omega)).mono ?_; rintro e w10 ⟨rfl, hR10, hK10⟩; have HR10 := Aside0.mk hR10; have HB10 : Aside0 (Below W1.heap.size W1 w10) := ⟨hK10.below HB7'.out HG.out HB7'.out.size⟩; clear hR10 hK10))
                obtain rfl := HGK.out
                go_roundg (n - 1)
                case measure => have := HNN.out; omega
                case rel =>
                  have hl : (joinOnce xs).length = n - 1 := by rw [HJ.out]; have := HY.out; simp; omega
                  have el : a + 1 + (n - (a + 2)) = n - 1 := by omega
                  refine ⟨joinOnce xs, some ⟨g, 0, none⟩, c, by rw [hl, el], hl.symm, by omega, ⟨?_⟩, ⟨?_⟩, HB10⟩
                  · have h5 := HE.out
                    have e5 : gko = (n - 1) + 1 := by have := HNN.out; omega
                    rw [e5] at h5
                    have h6 : a1 < (xs.length : Int) := of_decide_eq_true t1
                    simp only [joinsW, if_pos h6] at h5
                    exact h5
                  · have h7 := HR10.out
                    rw [← HJ.out] at h7
                    exact h7.to_R HG.out
        · have t1 : decide (a1 < (xs.length : Int)) = false := decide_eq_false hgt
          have HE' : Aside0 (xs = r1) := ⟨by
            have := HE.out
            cases gk with
            | zero => exact this
            | succ k => simpa [joinsW, hgt] using this⟩
          clear hgt
          obtain ⟨k0, k2⟩ := K.out _ HBx.out
          have HK2 := Aside0.mk k2
          have c4 : wr.cell? ⟨B + 1, 0, none⟩ = some (.slice none 0 0) := (blk_cell k2 0).trans rfl
          have f4 := blk_frozen k2 0
          clear k0 k2
          go_wp2
          refine bodyPost_ret (results_ct rfl _ _ (B + 1) 24 #[.slice A xs.length c] (0, 0) _ rfl (blk_put (cs := #[.slice none 0 0]) HK2.out 0 _ rfl) Tryd.underlying24 rfl (by kernel_rfl)) rfl ?_
          have hR := Kd.R_lower (R_set_low (i := 0) HX.out (B := B + 1) (by have := HS3.out; omega) (.slice A xs.length c)) (show w.heap.size ≤ B + 1 by have := HBq.out; omega)
          exact ⟨_, rfl, by rw [← HE'.out]; exact hR, F.out _ _ HBx.out⟩
    · rw [if_neg hn] at h2
      simp only [Option.some.injEq, Prod.mk.injEq] at h2
      obtain ⟨rfl, rfl⟩ := h2
      have hpf : Aside0 (pack_from.f a1 1 64 = some false) := ⟨by
        unfold pack_from.f
        split
        · rename_i h5
          simp only [Option.some.injEq, decide_eq_false_iff_not]
          intro h6
          exact hn ⟨h5, h6⟩
        · rfl⟩
      clear h1 hn
      obtain ⟨k0, k2⟩ := K.out _ HB7.out
      have HK2 := Aside0.mk k2
      have c4 : w7.cell? ⟨B + 1, 0, none⟩ = some (.slice none 0 0) := (blk_cell k2 0).trans rfl
      have f4 := blk_frozen k2 0
      clear k0 k2
      go_wp2_with (first | (go_at_call 67; refine (pack_from.calls a1 1 64 false _ hpf.out).mono ?_; rintro e w8 ⟨rfl, ⟨nd, rfl⟩⟩))
      refine bodyPost_ret (results_ct rfl _ _ (B + 1) 24 #[.slice none 0 0] (0, 0) _ rfl (blk_put (cs := #[.slice none 0 0]) (blk_drewN HK2.out _) 0 _ rfl) Tryd.underlying24 rfl (by kernel_rfl)) rfl ?_
      exact ⟨_, rfl, Kd.R_nil _ _ _ _ _, F.out _ _ (pw_below_drewN HB7.out _)⟩
  · have z0 : (e1 != 0) = true := by simp [h1]
    have h2 := HH.out
    rw [if_neg h1] at h2
    simp only [Option.some.injEq, Prod.mk.injEq] at h2
    obtain ⟨rfl, rfl⟩ := h2
    clear h1
    obtain ⟨k0, k2⟩ := K.out _ HB7.out
    have HK2 := Aside0.mk k2
    have c4 : w7.cell? ⟨B + 1, 0, none⟩ = some (.slice none 0 0) := (blk_cell k2 0).trans rfl
    have f4 := blk_frozen k2 0
    clear k0 k2
    go_wp2
    refine bodyPost_ret (results_ct rfl _ _ (B + 1) 24 #[.slice none 0 0] (0, 0) _ rfl (blk_put (cs := #[.slice none 0 0]) HK2.out 0 _ rfl) Tryd.underlying24 rfl (by kernel_rfl)) rfl ?_
    exact ⟨_, rfl, Kd.R_nil _ _ _ _ _, F.out _ _ HB7.out⟩
end Go.Proofs.YtpldcikmlpegpaaDoor.PB
end
section
namespace Go.Proofs.YtpldcikmlpegpaaDoor.PB
open Go.RowKit Go.Proofs.YtpldcikmlpegpaaDoor.Col Go.Proofs.YtpldcikmlpegpaaDoorW.PrintWords Go.Proofs.YtpldcikmlpegpaaDoorW.PrintLast Go.Proofs.YtpldcikmlpegpaaDoorW.PrintMore
attribute [local go_sem] max2_int min2_int max_two min_two
def exL : List S48 := [⟨40, 2, 0⟩, ⟨100, 0, 5⟩]
def exM : List S48 := [⟨19, 0, 0⟩, ⟨105, 5, 0⟩]
def exV : List S48 := [⟨92, 0, 3⟩]
def exJ : List S48 := [⟨142, 0, 3⟩]
def exT : ByteArray := ⟨#[112, 97, 99, 107, 32, 52, 48, 47, 50, 47, 48, 32, 49, 48, 48, 47, 48, 47, 53]⟩
set_option maxRecDepth 100000 in
theorem ex_water : pack_Water.f 200 exL = some (142, 0) := by kernel_rfl
set_option maxRecDepth 100000 in
theorem ex_ready : pack_Ready.f 200 exL = some (10, 0) := by kernel_rfl
set_option maxRecDepth 100000 in
theorem ex_melt : pack_Apply.f exL 3 21 0 = some (exM, 13, 0) := by kernel_rfl
set_option maxRecDepth 100000 in
theorem ex_loss : pack_Apply.f exL 5 50 0 = some (exV, 0, 0) := by kernel_rfl
set_option maxRecDepth 100000 in
theorem ex_weak : pack_Weakest.f exL = some (1, 42, 0) := by kernel_rfl
set_option maxRecDepth 100000 in
theorem ex_steep : pack_Steepest.f 200 [⟨300, 0, 0⟩, ⟨20, 0, 0⟩] = some (27, 0) := by kernel_rfl
set_option maxRecDepth 100000 in
theorem ex_join : pack_Joined.f exL 1 = some (exJ, 0) := by kernel_rfl
set_option maxRecDepth 100000 in
theorem ex_print : pack_Print.f 200 exL = some (exT, 0) := by kernel_rfl
set_option maxRecDepth 100000 in
theorem ex_none : pack_Weakest.f [] = some (0, 0, 4) := by kernel_rfl
set_option maxRecDepth 100000 in
theorem same_M : snowlineref02_Same.f 200 exM exM = some true := by kernel_rfl
set_option maxRecDepth 100000 in
theorem same_V : snowlineref02_Same.f 200 exV exV = some true := by kernel_rfl
set_option maxRecDepth 100000 in
theorem same_J : snowlineref02_Same.f 200 exJ exJ = some true := by kernel_rfl
theorem lit_C' (W : World) (l : List S48) (n : Nat) (hn : l.length = n) (hl : n ≤ 1000) (cs : Array Value) (hcs : (l.flatMap lcells).toArray = cs) : Kd.C k48 (W.alloc (.cells cs 48 (0, 0))) (some ⟨W.heap.size, 0, none⟩) l.length l := by
  subst hcs hn
  have h : Row (W.alloc (.cells (l.flatMap lcells).toArray 48 (0, 0))) W.heap.size l.length l :=
    ⟨l.flatMap lcells, blk_new _ _, Nat.le_refl _, by have : maxLen = 9223372036854775807 := rfl; omega, flat_len l, by rw [← flat_len l, List.take_length]⟩
  exact (Kd.R_reads' (Row.to_R h (base := 0) (Nat.zero_le _))).2.2
theorem lit_C (W : World) (l : List S48) (hl : l.length ≤ 1000) : Kd.C k48 (W.alloc (.cells (l.flatMap lcells).toArray 48 (0, 0))) (some ⟨W.heap.size, 0, none⟩) l.length l := lit_C' W l _ rfl hl _ rfl
theorem same_lit (A : Option Addr) (c : Nat) (l : List S48) (W : World) (n : Nat) (hn : l.length = n) (hl : n ≤ 1000) (cs : Array Value) (hcs : (l.flatMap lcells).toArray = cs) (hC : Kd.C k48 (W.alloc (.cells cs 48 (0, 0))) A l.length l) (hc : l.length ≤ c) (hs : snowlineref02_Same.f 200 l l = some true) :
    Calls Tryd.prog 23 #[.agg #[.slice A l.length c], .agg #[.slice (some ⟨W.heap.size, 0, none⟩) n n]] (W.alloc (.cells cs 48 (0, 0))) fun e w' => e = .returned (.bool true) ∧ Below W.heap.size W w' := by
  have h2 := lit_C' W l n hn hl cs hcs
  have := snowlineref02_Same.calls 200 A c l (some ⟨W.heap.size, 0, none⟩) n l true _ hC hc h2 (by omega) hs
  rw [hn] at this ⊢
  exact this.mono (fun e w' ⟨h1, h3⟩ => ⟨h1, Below.trans ((Below.refl _ _).alloc (Nat.le_refl _) _) (h3.mono (by simp))⟩)
set_option maxRecDepth 100000 in
set_option maxHeartbeats 2000000 in
theorem sane_walk (L M V J : List S48) (ex_ex : snowlinelaw02_example.f = some L) (ex_water : pack_Water.f 200 L = some (142, 0)) (ex_ready : pack_Ready.f 200 L = some (10, 0)) (ex_melt : pack_Apply.f L 3 21 0 = some (M, 13, 0)) (ex_loss : pack_Apply.f L 5 50 0 = some (V, 0, 0))
    (ex_weak : pack_Weakest.f L = some (1, 42, 0)) (ex_steep : pack_Steepest.f 200 [⟨300, 0, 0⟩, ⟨20, 0, 0⟩] = some (27, 0)) (ex_join : pack_Joined.f L 1 = some (J, 0))
    (ex_print : pack_Print.f 200 L = some (⟨#[112, 97, 99, 107, 32, 52, 48, 47, 50, 47, 48, 32, 49, 48, 48, 47, 48, 47, 53]⟩, 0)) (ex_none : pack_Weakest.f [] = some (0, 0, 4))
    (same_M : snowlineref02_Same.f 200 M M = some true) (same_V : snowlineref02_Same.f 200 V V = some true) (same_J : snowlineref02_Same.f 200 J J = some true)
    (nM : M.length = 2) (nV : V.length = 1) (nJ : J.length = 1)
    (cM : (M.flatMap lcells).toArray = #[.int .i64 19, .int .i64 0, .int .i64 0, .int .i64 105, .int .i64 5, .int .i64 0]) (cV : (V.flatMap lcells).toArray = #[.int .i64 92, .int .i64 0, .int .i64 3]) (cJ : (J.flatMap lcells).toArray = #[.int .i64 142, .int .i64 0, .int .i64 3])
    (w : World) (hG : Glob w) :
    Calls Tryd.prog 18 #[] w fun e w' => e = .returned (.bool true) ∧ Below w.heap.size w w' := by
  have HGl := Aside0.mk hG
  replace ex_ex := Aside0.mk ex_ex
  replace ex_water := Aside0.mk ex_water
  replace ex_ready := Aside0.mk ex_ready
  replace ex_melt := Aside0.mk ex_melt
  replace ex_loss := Aside0.mk ex_loss
  replace ex_weak := Aside0.mk ex_weak
  replace ex_steep := Aside0.mk ex_steep
  replace ex_join := Aside0.mk ex_join
  replace ex_print := Aside0.mk ex_print
  replace ex_none := Aside0.mk ex_none
  replace same_M := Aside0.mk same_M
  replace same_V := Aside0.mk same_V
  replace same_J := Aside0.mk same_J
  replace nM := Aside0.mk nM
  replace nV := Aside0.mk nV
  replace nJ := Aside0.mk nJ
  replace cM := Aside0.mk cM
  replace cV := Aside0.mk cV
  replace cJ := Aside0.mk cJ
  clear hG
  go_enter Tryd.func18, Tryd.ntmps18
  go_upto_region 2 with (first | (go_at_call 57; refine (snowlinelaw02_example.calls L _ ex_ex.out).mono ?_; rintro e w1 ⟨v1, rfl, hR, hb⟩; obtain ⟨A1, c1, rfl⟩ := Kd.R_slice hR; have HR1 := Aside0.mk hR; have HB1 := Aside0.mk hb; clear hR hb))
  obtain ⟨p1, hp1⟩ : ∃ p, w1.heap.size = p := ⟨_, rfl⟩
  obtain ⟨W2, hW2⟩ : ∃ W, w1.alloc (.cells #[.slice A1 L.length c1] 24 (0, 0)) = W := ⟨_, rfl⟩
  have HB2 : Aside0 (Below w.heap.size w W2) := ⟨by rw [← hW2]; exact HB1.out.alloc HB1.out.size _⟩
  have P1 : Aside0 (W2.heap[p1]? = some (.cells #[.slice A1 L.length c1] 24 (0, 0))) := ⟨by rw [← hW2, ← hp1]; exact blk_new _ _⟩
  have HR2 : Aside0 (Kd.R k48 48 W2 w.heap.size (fun _ => True) (.slice A1 L.length c1) L) := ⟨by rw [← hW2]; exact Kd.R_alloc HR1.out _⟩
  have HC : Aside0 (L.length ≤ c1) := ⟨(Kd.R_reads' HR2.out).2.1⟩
  have K : Aside0 (∀ wX : World, Below W2.heap.size W2 wX → wX.cell? ⟨p1, 0, none⟩ = some (.slice A1 L.length c1) ∧ Kd.C k48 wX A1 L.length L ∧ Glob wX ∧ Below w.heap.size w wX) :=
    ⟨fun wX hb => ⟨(blk_cell (blk_below P1.out hb) 0).trans rfl, Kd.C_below (Kd.R_reads' HR2.out).2.2 hb, (HGl.out.below HB2.out (Nat.le_refl _)).below hb (Nat.le_refl _), HB2.out.trans (hb.mono HB2.out.size)⟩⟩
  rw [hW2, hp1]
  clear hW2 hp1 HR1 HB1
  have H2 : Aside0 (Below W2.heap.size W2 W2) := ⟨Below.refl _ _⟩
  have q := (K.out _ H2.out).1
  go_upto_region 3 with (first | (go_at_call 24; refine (pack_Water.calls 200 A1 c1 L 142 0 _ (K.out _ H2.out).2.1 HC.out ex_water.out).mono ?_; rintro e w3 ⟨rfl, hb⟩; have H3 := Aside0.mk (below_step H2.out hb); clear hb q))
  have q := (K.out _ H3.out).1
  go_upto_region 4 with (first | (go_at_call 26; refine (pack_Ready.calls 200 A1 c1 L 10 0 _ (K.out _ H3.out).2.1 HC.out ex_ready.out).mono ?_; rintro e w4 ⟨rfl, hb⟩; have H4 := Aside0.mk (below_step H3.out hb); clear hb q))
  have q := (K.out _ H4.out).1
  go_upto_region 5 with (first | (go_at_call 21; refine (pack_Apply.calls A1 c1 L 3 21 0 M 13 0 _ (K.out _ H4.out).2.1 HC.out ex_melt.out).mono ?_; rintro e w5 ⟨v5, rfl, hR, hb⟩; obtain ⟨A5, c5, rfl⟩ := Kd.R_slice hR; have HR5 := Aside0.mk hR; have H5 := Aside0.mk (below_step H4.out hb); clear hb hR q))
  obtain ⟨p5, hp5⟩ : ∃ p, w5.heap.size = p := ⟨_, rfl⟩
  obtain ⟨W5, hW5⟩ : ∃ W, w5.alloc (.cells #[.slice A5 M.length c5] 24 (0, 0)) = W := ⟨_, rfl⟩
  have H5' : Aside0 (Below W2.heap.size W2 W5) := ⟨by rw [← hW5]; exact H5.out.alloc H5.out.size _⟩
  have P5 : Aside0 (W5.heap[p5]? = some (.cells #[.slice A5 M.length c5] 24 (0, 0))) := ⟨by rw [← hW5, ← hp5]; exact blk_new _ _⟩
  have HR5' : Aside0 (Kd.C k48 W5 A5 M.length M ∧ M.length ≤ c5) := ⟨by rw [← hW5]; have := Kd.R_reads' (Kd.R_alloc HR5.out (.cells #[.slice A5 M.length c5] 24 (0, 0))); exact ⟨this.2.2, this.2.1⟩⟩
  rw [hW5, hp5]
  clear hW5 hp5 HR5 H5
  have q := (K.out _ H5'.out).1
  go_upto_region 6 with (first | (go_at_call 21; refine (pack_Apply.calls A1 c1 L 5 50 0 V 0 0 _ (K.out _ H5'.out).2.1 HC.out ex_loss.out).mono ?_; rintro e w6 ⟨v6, rfl, hR, hb⟩; obtain ⟨A6, c6, rfl⟩ := Kd.R_slice hR; have HR6 := Aside0.mk hR; have H56 := Aside0.mk hb; have H6 := Aside0.mk (below_step H5'.out hb); clear hb hR q))
  obtain ⟨p6, hp6⟩ : ∃ p, w6.heap.size = p := ⟨_, rfl⟩
  obtain ⟨W6, hW6⟩ : ∃ W, w6.alloc (.cells #[.slice A6 V.length c6] 24 (0, 0)) = W := ⟨_, rfl⟩
  have H6' : Aside0 (Below W2.heap.size W2 W6) := ⟨by rw [← hW6]; exact H6.out.alloc H6.out.size _⟩
  have H56' : Aside0 (Below W5.heap.size W5 W6) := ⟨by rw [← hW6]; exact H56.out.alloc H56.out.size _⟩
  have P6 : Aside0 (W6.heap[p6]? = some (.cells #[.slice A6 V.length c6] 24 (0, 0))) := ⟨by rw [← hW6, ← hp6]; exact blk_new _ _⟩
  have HR6' : Aside0 (Kd.C k48 W6 A6 V.length V ∧ V.length ≤ c6) := ⟨by rw [← hW6]; have := Kd.R_reads' (Kd.R_alloc HR6.out (.cells #[.slice A6 V.length c6] 24 (0, 0))); exact ⟨this.2.2, this.2.1⟩⟩
  rw [hW6, hp6]
  clear hW6 hp6 HR6 H6 H56
  have q := (K.out _ H6'.out).1
  go_upto_region 7 with (first | (go_at_call 33; refine (pack_Weakest.calls A1 c1 L 1 42 0 _ (K.out _ H6'.out).2.1 HC.out ex_weak.out).mono ?_; rintro e w7 ⟨rfl, hb⟩; have H67 := Aside0.mk hb; have H7 := Aside0.mk (below_step H6'.out hb); clear hb q))
  go_upto_region 8 with (first | (go_at_call 37; refine (pack_Steepest.calls 200 (some ⟨w7.heap.size, 0, none⟩) 2 [⟨300, 0, 0⟩, ⟨20, 0, 0⟩] 27 0 _ (lit_C w7 [⟨300, 0, 0⟩, ⟨20, 0, 0⟩] (by decide)) (by decide) ex_steep.out).mono ?_; rintro e w8 ⟨rfl, hb⟩; have H68 := Aside0.mk (below_step (H67.out.alloc H67.out.size _) hb); have H8 := Aside0.mk (below_step (H7.out.alloc H7.out.size _) hb); clear hb))
  have q := (K.out _ H8.out).1
  go_upto_region 9 with (first | (go_at_call 29; refine (pack_Joined.calls A1 c1 L 1 J 0 _ (K.out _ H8.out).2.1 HC.out ex_join.out).mono ?_; rintro e w9 ⟨v9, rfl, hR, hb⟩; obtain ⟨A9, c9, rfl⟩ := Kd.R_slice hR; have HR9 := Aside0.mk hR; have H69 := Aside0.mk (below_step H68.out hb); have H9 := Aside0.mk (below_step H8.out hb); clear hb hR q))
  obtain ⟨p9, hp9⟩ : ∃ p, w9.heap.size = p := ⟨_, rfl⟩
  obtain ⟨W9, hW9⟩ : ∃ W, w9.alloc (.cells #[.slice A9 J.length c9] 24 (0, 0)) = W := ⟨_, rfl⟩
  have H9' : Aside0 (Below W2.heap.size W2 W9) := ⟨by rw [← hW9]; exact H9.out.alloc H9.out.size _⟩
  have H69' : Aside0 (Below W6.heap.size W6 W9) := ⟨by rw [← hW9]; exact H69.out.alloc H69.out.size _⟩
  have P9 : Aside0 (W9.heap[p9]? = some (.cells #[.slice A9 J.length c9] 24 (0, 0))) := ⟨by rw [← hW9, ← hp9]; exact blk_new _ _⟩
  have HR9' : Aside0 (Kd.C k48 W9 A9 J.length J ∧ J.length ≤ c9) := ⟨by rw [← hW9]; have := Kd.R_reads' (Kd.R_alloc HR9.out (.cells #[.slice A9 J.length c9] 24 (0, 0))); exact ⟨this.2.2, this.2.1⟩⟩
  rw [hW9, hp9]
  clear hW9 hp9 HR9 H9 H69
  have q := (K.out _ H9'.out).1
  go_upto_region 10 with (first | (go_at_call 58; refine (pack_Print.calls 200 A1 c1 L ⟨#[112, 97, 99, 107, 32, 52, 48, 47, 50, 47, 48, 32, 49, 48, 48, 47, 48, 47, 53]⟩ 0 _ (K.out _ H9'.out).2.1 HC.out (K.out _ H9'.out).2.2.1 ex_print.out).mono ?_; rintro e w10 ⟨rfl, hb⟩; have H910 := Aside0.mk hb; have H10 := Aside0.mk (below_step H9'.out hb); clear hb q))
  go_upto_region 11 with (first | (go_at_call 33; refine (pack_Weakest.calls none 0 [] 0 0 4 _ ⟨rfl, by simp, fun h => by simp at h⟩ (Nat.le_refl _) ex_none.out).mono ?_; rintro e w11 ⟨rfl, hb⟩; have H911 := Aside0.mk (below_step H910.out hb); have H11 := Aside0.mk (below_step H10.out hb); clear hb))
  have HC5 : Aside0 (∀ wX : World, Below w11.heap.size w11 wX → wX.cell? ⟨p5, 0, none⟩ = some (.slice A5 M.length c5) ∧ Kd.C k48 wX A5 M.length M) :=
    ⟨fun wX hb => by
      have h := below_step (below_step (below_step H56'.out H69'.out) H911.out) hb
      exact ⟨(blk_cell (blk_below P5.out h) 0).trans rfl, Kd.C_below HR5'.out.1 h⟩⟩
  have HC6 : Aside0 (∀ wX : World, Below w11.heap.size w11 wX → wX.cell? ⟨p6, 0, none⟩ = some (.slice A6 V.length c6) ∧ Kd.C k48 wX A6 V.length V) :=
    ⟨fun wX hb => by
      have h := below_step (below_step H69'.out H911.out) hb
      exact ⟨(blk_cell (blk_below P6.out h) 0).trans rfl, Kd.C_below HR6'.out.1 h⟩⟩
  have HC9 : Aside0 (∀ wX : World, Below w11.heap.size w11 wX → wX.cell? ⟨p9, 0, none⟩ = some (.slice A9 J.length c9) ∧ Kd.C k48 wX A9 J.length J) :=
    ⟨fun wX hb => by
      have h := below_step H911.out hb
      exact ⟨(blk_cell (blk_below P9.out h) 0).trans rfl, Kd.C_below HR9'.out.1 h⟩⟩
  go_upto_region 13 with (fail)
  have q := (HC5.out _ (Below.refl _ _)).1
  go_wp2_with (first | fail)
  go_at_call 23
  have hx := same_lit A5 c5 M w11 2 nM.out (by decide) _ cM.out (HC5.out _ ((Below.refl _ _).alloc (Nat.le_refl _) _)).2 HR5'.out.2 same_M.out
  refine hx.mono ?_
  clear hx
  rintro e w12 ⟨rfl, hb⟩
  have H12 := Aside0.mk hb
  clear hb q
  have q := (HC6.out _ H12.out).1
  go_wp2_with (first | fail)
  go_at_call 23
  have hx := same_lit A6 c6 V w12 1 nV.out (by decide) _ cV.out (HC6.out _ (H12.out.alloc H12.out.size _)).2 HR6'.out.2 same_V.out
  refine hx.mono ?_
  clear hx
  rintro e w13 ⟨rfl, hb⟩
  have H13 := Aside0.mk (below_step H12.out hb)
  clear hb q
  have q := (HC9.out _ H13.out).1
  go_wp2_with (first | fail)
  go_at_call 23
  have hx := same_lit A9 c9 J w13 1 nJ.out (by decide) _ cJ.out (HC9.out _ (H13.out.alloc H13.out.size _)).2 HR9'.out.2 same_J.out
  refine hx.mono ?_
  clear hx
  rintro e w14 ⟨rfl, hb⟩
  have H14 := Aside0.mk (below_step H13.out hb)
  clear hb q
  go_wp2_with (first | fail)
  go_ret
  exact ⟨rfl, (K.out _ (below_step H11.out H14.out)).2.2.2⟩
def snowlinelaw02_sane.f (_ : Nat) : Option Bool := some true
theorem snowlinelaw02_sane.calls (k : Nat) (r : Bool) (w : World) (hG : Glob w) (h : snowlinelaw02_sane.f k = some r) :
    Calls Tryd.prog 18 #[] w fun e w' => e = .returned (.bool r) ∧ Below w.heap.size w w' := by
  obtain rfl : true = r := Option.some.inj h
  exact sane_walk exL exM exV exJ rfl ex_water ex_ready ex_melt ex_loss ex_weak ex_steep ex_join ex_print ex_none same_M same_V same_J rfl rfl rfl rfl rfl rfl w hG
end Go.Proofs.YtpldcikmlpegpaaDoor.PB
end
section
namespace Go.Proofs.YtpldcikmlpegpaaDoor.PB
open Go.RowKit Go.Proofs.YtpldcikmlpegpaaDoorW.PrintWords Go.Proofs.YtpldcikmlpegpaaDoorW.PrintLast Go.Proofs.YtpldcikmlpegpaaDoorW.PrintMore
attribute [local go_sem] max2_int min2_int max_two min_two max_three min_three max_four min_four   -- for this text's walks alone
set_option linter.unusedVariables false
set_option linter.unusedSimpArgs false
def snowlinelaw02_few.l0 : Nat → List (S24) → Int → Option (Bool)
  | 0, _, _ => none
  | k + 1, x0, x3 => if x3 < (x0.length : Int) then (if 0 ≤ x3 then (if (((rd_T24 x0 x3).f0).length : Int) > 70 then (some false) else (snowlinelaw02_few.l0 k x0 (wrap64 (x3 + 1)))) else (none)) else (some true)
def snowlinelaw02_few.f (k : Nat) (l0 : List (S24)) : Option (Bool) := snowlinelaw02_few.l0 k l0 0
set_option maxHeartbeats 8000000 in
set_option maxRecDepth 100000 in
theorem snowlinelaw02_few.calls (k : Nat) (A0 : Option Addr) (c0 : Nat) (l0 : List (S24)) (r : Bool) (w : World) (hr0 : Kd.C k24 w A0 l0.length l0) (hc0 : l0.length ≤ c0) (h : snowlinelaw02_few.f k l0 = some r) :
    Calls Tryd.prog 19 #[.slice A0 l0.length c0] w fun e w' => e = .returned (.bool r) ∧ Drawn0 w w' := by
  have HR0 := Aside0.mk hr0
  have HC0 := Aside0.mk hc0
  clear hr0 hc0
  have H : (snowlinelaw02_few.l0 k l0 0) = some r := h
  clear h
  have H' := Aside0.mk H
  clear H
  go_enter Tryd.func19, Tryd.ntmps19
  go_wp2
  go_loopg [3] k (fun kq v3 w' => ∃ (x3_1 : Int), v3 = .int .i64 x3_1 ∧ Aside0 (snowlinelaw02_few.l0 kq l0 x3_1 = some r) ∧ Aside0 (kq ≤ k) ∧ Drawn0 w w')
  case atStart => exact ⟨(0), (by first | rfl | (simp; done) | (simp [*]; done)), H', ⟨Nat.le_refl _⟩, by repeat (first | exact Drawn0.refl _ | apply Drawn0.step)⟩
  case round =>
    clear H'
    try clear c1
    obtain ⟨x3_1, rfl, HA, HK1, ⟨m1, rfl⟩⟩ := hrel
    cases gk with
    | zero => exact absurd HA.out (by simp [snowlinelaw02_few.l0])
    | succ k1 =>
      have H := HA.out
      clear HA
      simp only [snowlinelaw02_few.l0] at H
      by_cases c2 : x3_1 < (l0.length : Int)
      · rw [if_pos c2] at H
        have c2b0 : decide (x3_1 < (l0.length : Int)) = true := decide_eq_true c2
        clear c2
        by_cases c3 : 0 ≤ x3_1
        · rw [if_pos c3] at H
          have c3b0 : decide (0 ≤ x3_1) = true := decide_eq_true c3
          clear c3
          by_cases c4 : (((rd_T24 l0 x3_1).f0).length : Int) > 70
          · rw [if_pos c4] at H
            have c4b0 : decide (70 < (((rd_T24 l0 x3_1).f0).length : Int)) = true := decide_eq_true c4
            have c4b1 : decide (70 < ((rd_T24 l0 x3_1).f0).length) = true := decide_eq_true (by omega)
            clear c4
            obtain rfl := Option.some.inj H
            have p212 : 0 ≤ (x3_1 : Int) := of_decide_eq_true (by first | (with_reducible assumption) | assumption)
            have q212 : x3_1 < (l0.length : Int) := of_decide_eq_true (by first | (with_reducible assumption) | assumption)
            obtain ⟨ad212, A212_0, c212_0, e212, hx212_0, hl212_0, hi212_0⟩ := at_T24 HR0.out x3_1 p212 q212
            cases e212
            have HR212_0 := Aside0.mk hi212_0
            have HC212_0 := Aside0.mk hl212_0
            clear hi212_0 hl212_0
            replace p212 := eq_true p212
            replace q212 := eq_true q212
            go_wp2
            go_ret
            exact ⟨by first | rfl | (simp; done) | (simp [*]; done), by repeat (first | exact Drawn0.refl _ | apply Drawn0.step)⟩
          · rw [if_neg c4] at H
            have c4b0 : decide (70 < (((rd_T24 l0 x3_1).f0).length : Int)) = false := decide_eq_false c4
            have c4b1 : decide (70 < ((rd_T24 l0 x3_1).f0).length) = false := decide_eq_false (by omega)
            clear c4
            have H' := Aside0.mk H
            clear H
            have p212 : 0 ≤ (x3_1 : Int) := of_decide_eq_true (by first | (with_reducible assumption) | assumption)
            have q212 : x3_1 < (l0.length : Int) := of_decide_eq_true (by first | (with_reducible assumption) | assumption)
            obtain ⟨ad212, A212_0, c212_0, e212, hx212_0, hl212_0, hi212_0⟩ := at_T24 HR0.out x3_1 p212 q212
            cases e212
            have HR212_0 := Aside0.mk hi212_0
            have HC212_0 := Aside0.mk hl212_0
            clear hi212_0 hl212_0
            replace p212 := eq_true p212
            replace q212 := eq_true q212
            go_wp2
            go_roundg k1
            case measure => have := HK1.out; omega
            case rel => exact ⟨(wrap64 (x3_1 + 1)), (by first | rfl | (simp; done) | (simp [*]; done)), H', ⟨by have := HK1.out; omega⟩, by repeat (first | exact Drawn0.refl _ | apply Drawn0.step)⟩
        · rw [if_neg c3] at H
          exact absurd H (by simp)
      · rw [if_neg c2] at H
        have c2b0 : decide (x3_1 < (l0.length : Int)) = false := decide_eq_false c2
        clear c2
        obtain rfl := Option.some.inj H
        go_wp2
        go_ret
        exact ⟨by first | rfl | (simp; done) | (simp [*]; done), by repeat (first | exact Drawn0.refl _ | apply Drawn0.step)⟩
def snowlinelaw02_light.l0 : Nat → List (S26) → Int → Option (Bool)
  | 0, _, _ => none
  | k + 1, x0, x3 => if x3 < (x0.length : Int) then (if 0 ≤ x3 then (if ((rd_T26 x0 x3).f0) = 1 then (snowlinelaw02_light.l0 k x0 (wrap64 (x3 + 1))) else (if ((rd_T26 x0 x3).f1) > 3000 then (if ((rd_T26 x0 x3).f1) ≤ 65536 then (some false) else (snowlinelaw02_light.l0 k x0 (wrap64 (x3 + 1)))) else (snowlinelaw02_light.l0 k x0 (wrap64 (x3 + 1))))) else (none)) else (some true)
def snowlinelaw02_light.f (k : Nat) (l0 : List (S26)) : Option (Bool) := snowlinelaw02_light.l0 k l0 0
set_option maxHeartbeats 8000000 in
set_option maxRecDepth 100000 in
theorem snowlinelaw02_light.calls (k : Nat) (A0 : Option Addr) (c0 : Nat) (l0 : List (S26)) (r : Bool) (w : World) (hr0 : Kd.C k26 w A0 l0.length l0) (hc0 : l0.length ≤ c0) (h : snowlinelaw02_light.f k l0 = some r) :
    Calls Tryd.prog 20 #[.slice A0 l0.length c0] w fun e w' => e = .returned (.bool r) ∧ Drawn0 w w' := by
  have HR0 := Aside0.mk hr0
  have HC0 := Aside0.mk hc0
  clear hr0 hc0
  have H : (snowlinelaw02_light.l0 k l0 0) = some r := h
  clear h
  have H' := Aside0.mk H
  clear H
  go_enter Tryd.func20, Tryd.ntmps20
  go_wp2
  go_loopg [3] k (fun kq v3 w' => ∃ (x3_1 : Int), v3 = .int .i64 x3_1 ∧ Aside0 (snowlinelaw02_light.l0 kq l0 x3_1 = some r) ∧ Aside0 (kq ≤ k) ∧ Drawn0 w w')
  case atStart => exact ⟨(0), (by first | rfl | (simp; done) | (simp [*]; done)), H', ⟨Nat.le_refl _⟩, by repeat (first | exact Drawn0.refl _ | apply Drawn0.step)⟩
  case round =>
    clear H'
    obtain ⟨x3_1, rfl, HA, HK1, ⟨m1, rfl⟩⟩ := hrel
    cases gk with
    | zero => exact absurd HA.out (by simp [snowlinelaw02_light.l0])
    | succ k1 =>
      have H := HA.out
      clear HA
      simp only [snowlinelaw02_light.l0] at H
      by_cases c2 : x3_1 < (l0.length : Int)
      · rw [if_pos c2] at H
        have c2b0 : decide (x3_1 < (l0.length : Int)) = true := decide_eq_true c2
        clear c2
        by_cases c3 : 0 ≤ x3_1
        · rw [if_pos c3] at H
          have c3b0 : decide (0 ≤ x3_1) = true := decide_eq_true c3
          clear c3
          by_cases c4 : ((rd_T26 l0 x3_1).f0) = 1
          · rw [if_pos c4] at H
            have c4b0 : (((rd_T26 l0 x3_1).f0) == 1) = true := beq_iff_eq.mpr c4
            have c4b1 : (((rd_T26 l0 x3_1).f0) != 1) = false := bne_eq_false_iff_eq.mpr c4
            clear c4
            have H' := Aside0.mk H
            clear H
            have p213 : 0 ≤ (x3_1 : Int) := of_decide_eq_true (by first | (with_reducible assumption) | assumption)
            have q213 : x3_1 < (l0.length : Int) := of_decide_eq_true (by first | (with_reducible assumption) | assumption)
            obtain ⟨ad213, e213, hx213_0, hx213_1, hx213_2⟩ := at_T26 HR0.out x3_1 p213 q213
            cases e213
            replace p213 := eq_true p213
            replace q213 := eq_true q213
            go_wp2
            go_roundg k1
            case measure => have := HK1.out; omega
            case rel => exact ⟨(wrap64 (x3_1 + 1)), (by first | rfl | (simp; done) | (simp [*]; done)), H', ⟨by have := HK1.out; omega⟩, by repeat (first | exact Drawn0.refl _ | apply Drawn0.step)⟩
          · rw [if_neg c4] at H
            have c4b0 : (((rd_T26 l0 x3_1).f0) == 1) = false := beq_eq_false_iff_ne.mpr c4
            have c4b1 : (((rd_T26 l0 x3_1).f0) != 1) = true := bne_iff_ne.mpr c4
            by_cases c5 : ((rd_T26 l0 x3_1).f1) > 3000
            · rw [if_pos c5] at H
              have c5b0 : decide (3000 < ((rd_T26 l0 x3_1).f1)) = true := decide_eq_true c5
              clear c5
              by_cases c6 : ((rd_T26 l0 x3_1).f1) ≤ 65536
              · rw [if_pos c6] at H
                have c6b0 : decide (((rd_T26 l0 x3_1).f1) ≤ 65536) = true := decide_eq_true c6
                clear c6
                obtain rfl := Option.some.inj H
                have p213 : 0 ≤ (x3_1 : Int) := of_decide_eq_true (by first | (with_reducible assumption) | assumption)
                have q213 : x3_1 < (l0.length : Int) := of_decide_eq_true (by first | (with_reducible assumption) | assumption)
                obtain ⟨ad213, e213, hx213_0, hx213_1, hx213_2⟩ := at_T26 HR0.out x3_1 p213 q213
                cases e213
                replace p213 := eq_true p213
                replace q213 := eq_true q213
                have p214 : 0 ≤ (x3_1 : Int) := of_decide_eq_true (by first | (with_reducible assumption) | assumption)
                have q214 : x3_1 < (l0.length : Int) := of_decide_eq_true (by first | (with_reducible assumption) | assumption)
                obtain ⟨ad214, e214, hx214_0, hx214_1, hx214_2⟩ := at_T26 HR0.out x3_1 p214 q214
                obtain rfl : ad213 = ad214 := (by injection e214)
                replace p214 := eq_true p214
                replace q214 := eq_true q214
                have p215 : 0 ≤ (x3_1 : Int) := of_decide_eq_true (by first | (with_reducible assumption) | assumption)
                have q215 : x3_1 < (l0.length : Int) := of_decide_eq_true (by first | (with_reducible assumption) | assumption)
                obtain ⟨ad215, e215, hx215_0, hx215_1, hx215_2⟩ := at_T26 HR0.out x3_1 p215 q215
                obtain rfl : ad213 = ad215 := (by injection e215)
                replace p215 := eq_true p215
                replace q215 := eq_true q215
                go_wp2
                go_ret
                exact ⟨by first | rfl | (simp; done) | (simp [*]; done), by repeat (first | exact Drawn0.refl _ | apply Drawn0.step)⟩
              · rw [if_neg c6] at H
                have c6b0 : decide (((rd_T26 l0 x3_1).f1) ≤ 65536) = false := decide_eq_false c6
                clear c6
                have H' := Aside0.mk H
                clear H
                have p213 : 0 ≤ (x3_1 : Int) := of_decide_eq_true (by first | (with_reducible assumption) | assumption)
                have q213 : x3_1 < (l0.length : Int) := of_decide_eq_true (by first | (with_reducible assumption) | assumption)
                obtain ⟨ad213, e213, hx213_0, hx213_1, hx213_2⟩ := at_T26 HR0.out x3_1 p213 q213
                cases e213
                replace p213 := eq_true p213
                replace q213 := eq_true q213
                have p214 : 0 ≤ (x3_1 : Int) := of_decide_eq_true (by first | (with_reducible assumption) | assumption)
                have q214 : x3_1 < (l0.length : Int) := of_decide_eq_true (by first | (with_reducible assumption) | assumption)
                obtain ⟨ad214, e214, hx214_0, hx214_1, hx214_2⟩ := at_T26 HR0.out x3_1 p214 q214
                obtain rfl : ad213 = ad214 := (by injection e214)
                replace p214 := eq_true p214
                replace q214 := eq_true q214
                have p215 : 0 ≤ (x3_1 : Int) := of_decide_eq_true (by first | (with_reducible assumption) | assumption)
                have q215 : x3_1 < (l0.length : Int) := of_decide_eq_true (by first | (with_reducible assumption) | assumption)
                obtain ⟨ad215, e215, hx215_0, hx215_1, hx215_2⟩ := at_T26 HR0.out x3_1 p215 q215
                obtain rfl : ad213 = ad215 := (by injection e215)
                replace p215 := eq_true p215
                replace q215 := eq_true q215
                go_wp2
                go_roundg k1
                case measure => have := HK1.out; omega
                case rel => exact ⟨(wrap64 (x3_1 + 1)), (by first | rfl | (simp; done) | (simp [*]; done)), H', ⟨by have := HK1.out; omega⟩, by repeat (first | exact Drawn0.refl _ | apply Drawn0.step)⟩
            · rw [if_neg c5] at H
              have c5b0 : decide (3000 < ((rd_T26 l0 x3_1).f1)) = false := decide_eq_false c5
              clear c5
              have H' := Aside0.mk H
              clear H
              have p213 : 0 ≤ (x3_1 : Int) := of_decide_eq_true (by first | (with_reducible assumption) | assumption)
              have q213 : x3_1 < (l0.length : Int) := of_decide_eq_true (by first | (with_reducible assumption) | assumption)
              obtain ⟨ad213, e213, hx213_0, hx213_1, hx213_2⟩ := at_T26 HR0.out x3_1 p213 q213
              cases e213
              replace p213 := eq_true p213
              replace q213 := eq_true q213
              have p214 : 0 ≤ (x3_1 : Int) := of_decide_eq_true (by first | (with_reducible assumption) | assumption)
              have q214 : x3_1 < (l0.length : Int) := of_decide_eq_true (by first | (with_reducible assumption) | assumption)
              obtain ⟨ad214, e214, hx214_0, hx214_1, hx214_2⟩ := at_T26 HR0.out x3_1 p214 q214
              obtain rfl : ad213 = ad214 := (by injection e214)
              replace p214 := eq_true p214
              replace q214 := eq_true q214
              go_wp2
              go_roundg k1
              case measure => have := HK1.out; omega
              case rel => exact ⟨(wrap64 (x3_1 + 1)), (by first | rfl | (simp; done) | (simp [*]; done)), H', ⟨by have := HK1.out; omega⟩, by repeat (first | exact Drawn0.refl _ | apply Drawn0.step)⟩
        · rw [if_neg c3] at H
          exact absurd H (by simp)
      · rw [if_neg c2] at H
        have c2b0 : decide (x3_1 < (l0.length : Int)) = false := decide_eq_false c2
        clear c2
        obtain rfl := Option.some.inj H
        go_wp2
        go_ret
        exact ⟨by first | rfl | (simp; done) | (simp [*]; done), by repeat (first | exact Drawn0.refl _ | apply Drawn0.step)⟩
def snowlineref02_within.f (a0 : Int) (a1 : Int) (a2 : Int) : Option (Bool) := if a0 ≥ a1 then (some (decide (a0 ≤ a2))) else (some false)
set_option maxHeartbeats 8000000 in
set_option maxRecDepth 100000 in
theorem snowlineref02_within.calls (a0 : Int) (a1 : Int) (a2 : Int) (r : Bool) (w : World) (h : snowlineref02_within.f a0 a1 a2 = some r) :
    Calls Tryd.prog 71 #[.int .i64 a0, .int .i64 a1, .int .i64 a2] w fun e w' => e = .returned (.bool r) ∧ Drawn0 w w' := by
  have H : (if a0 ≥ a1 then (some (decide (a0 ≤ a2))) else (some false)) = some r := h
  clear h
  by_cases c4 : a0 ≥ a1
  · rw [if_pos c4] at H
    have c4b0 : decide (a1 ≤ a0) = true := decide_eq_true c4
    clear c4
    obtain rfl := Option.some.inj H
    go_enter Tryd.func71, Tryd.ntmps71
    go_wp2
    go_ret
    exact ⟨by first | rfl | (simp; done) | (simp [*]; done), by repeat (first | exact Drawn0.refl _ | apply Drawn0.step)⟩
  · rw [if_neg c4] at H
    have c4b0 : decide (a1 ≤ a0) = false := decide_eq_false c4
    clear c4
    obtain rfl := Option.some.inj H
    go_enter Tryd.func71, Tryd.ntmps71
    go_wp2
    go_ret
    exact ⟨by first | rfl | (simp; done) | (simp [*]; done), by repeat (first | exact Drawn0.refl _ | apply Drawn0.step)⟩
def snowlineref02_hold.f (a0_0 : Int) (a0_1 : Int) (a0_2 : Int) : Option (Int) := some (wrap64 (Int.tdiv a0_0 20))
set_option maxHeartbeats 8000000 in
set_option maxRecDepth 100000 in
theorem snowlineref02_hold.calls (a0_0 : Int) (a0_1 : Int) (a0_2 : Int) (r : Int) (w : World) (h : snowlineref02_hold.f a0_0 a0_1 a0_2 = some r) :
    Calls Tryd.prog 82 #[.agg #[.int .i64 a0_0, .int .i64 a0_1, .int .i64 a0_2]] w fun e w' => e = .returned (.int .i64 r) ∧ Below w.heap.size w w' := by
  have hu48 := Tryd.underlying48
  have HB := Aside0.mk (Below.refl w.heap.size w)
  have H : (some (wrap64 (Int.tdiv a0_0 20))) = some r := h
  clear h
  obtain rfl := Option.some.inj H
  go_enter Tryd.func82, Tryd.ntmps82
  go_wp2_with (first | ((with_reducible refine gate_dst (N := 1) rfl ?_); refine box_event ?hg (N := 1) ?hd (cs := #[.int .i64 a0_0, .int .i64 a0_1, .int .i64 a0_2]) (t := 48) ?hr ?_; (case hd => rfl); (case hg => rfl); (case hr => first | (go_simp; done) | (go_simp; rfl)); intro gb216 hg w2 hbox hb; have n0_ := Aside0.mk (below_step (by repeat (first | (with_reducible first | exact HB.out | apply below_alloc | apply pw_below_drewN | apply below_drew1) | exact HB.out)) hb); have n1_ := Aside0.mk (hbox); have n2_ := Aside0.mk ((by rw [hg]; exact (below_size (by repeat (first | (with_reducible first | exact HB.out | apply below_alloc | apply pw_below_drewN | apply below_drew1) | exact HB.out))) : w.heap.size ≤ gb216)); have n3_ := Aside0.mk ((by rw [hg]; exact (below_size (by repeat (first | (with_reducible first | exact HB.out | apply below_alloc | apply pw_below_drewN | apply below_drew1) | exact HB.out))) : w.heap.size ≤ gb216)); clear HB; have HB := n0_; have BK216 := n1_; have GW216 := n2_; have GE216 := n3_; clear n0_ n1_ n2_ n3_; clear hb hbox hg; have hcz3_0 : w2.cell? ⟨gb216, 0, none⟩ = some (.int .i64 a0_0) := (blk_cell BK216.out 0).trans rfl; have hcz3_1 : w2.cell? ⟨gb216, 1, none⟩ = some (.int .i64 a0_1) := (blk_cell BK216.out 1).trans rfl; have hcz3_2 : w2.cell? ⟨gb216, 2, none⟩ = some (.int .i64 a0_2) := (blk_cell BK216.out 2).trans rfl; have hfz3_0 := blk_frozen BK216.out 0; have hfz3_1 := blk_frozen BK216.out 1; have hfz3_2 := blk_frozen BK216.out 2))
  go_ret
  exact ⟨by first | rfl | (simp [errW_none, errW_some] <;> rfl) | (simp [*, errW_none, errW_some] <;> rfl), by repeat (first | (with_reducible first | exact HB.out | apply below_alloc | apply pw_below_drewN | apply below_drew1 | refine below_set ?_ GE216.out) | exact HB.out)⟩
end Go.Proofs.YtpldcikmlpegpaaDoor.PB
end
