/-
The tied card of the law PackRun of snowlinelaw02 holds: it answers true for every pack, every list of steps and every cut, and changes nothing.
-/
import Derived.Deep.RegionLaw
import Derived.Lib.SliceRun
import Derived.Outline
import Derived.Deep.DeepCutAuto
import Derived.IntWalk
import Derived.Test.YtpldcikmlpegpaaDoorTie
import Derived.Test.YtpldcikmlpegpaaDoorCards
import Derived.SevenTiedAt
import Derived.Test.YtpldcikmlpegpaaDoorPackRunA1
import Derived.Test.YtpldcikmlpegpaaDoorPackRunA2
import Derived.Test.YtpldcikmlpegpaaDoorPackRunA3
section
namespace Go.Proofs.YtpldcikmlpegpaaDoor.PB
open Go.RowKit Go.Proofs.YtpldcikmlpegpaaDoorW.PrintWords Go.Proofs.YtpldcikmlpegpaaDoorW.PrintLast Go.Proofs.YtpldcikmlpegpaaDoorW.PrintMore
attribute [local go_sem] max2_int min2_int max_two min_two max_three min_three max_four min_four   -- for this text's walks alone
set_option linter.unusedVariables false
set_option linter.unusedSimpArgs false
def pack_Steepest.l0 : Nat → Int → List (S48) → Option (Int × Int)
  | 0, _, _ => none
  | k + 1, x5, x142000 => if x5 > 0 then ((pack_breaks.f x142000 x5).bind fun t143 => (if t143 = true then (pack_Steepest.l0 k (wrap64 (x5 - 1)) x142000) else (some (x5, 0)))) else (some (x5, 0))
def pack_Steepest.f (k : Nat) (l0_0 : List (S48)) : Option (Int × Int) := (pack_Check.f k l0_0).bind fun t142 => (if t142 = 0 then (pack_Steepest.l0 k 60 l0_0) else (some (0, t142)))
set_option maxHeartbeats 8000000 in
set_option maxRecDepth 100000 in
theorem pack_Steepest.calls (k : Nat) (A0_0 : Option Addr) (c0_0 : Nat) (l0_0 : List (S48)) (r1 : Int) (r2 : Int) (w : World) (hr0_0 : Kd.C k48 w A0_0 l0_0.length l0_0) (hc0_0 : l0_0.length ≤ c0_0) (h : pack_Steepest.f k l0_0 = some (r1, r2)) :
    Calls Tryd.prog 37 #[.agg #[.slice A0_0 l0_0.length c0_0]] w fun e w' => e = .returned (.tuple #[.int .i64 r1, .int .i64 r2]) ∧ Below w.heap.size w w' := by
  have hu24 := Tryd.underlying24
  have HR0_0 := Aside0.mk hr0_0
  have HC0_0 := Aside0.mk hc0_0
  clear hr0_0 hc0_0
  have HB := Aside0.mk (Below.refl w.heap.size w)
  have H : ((pack_Check.f k l0_0).bind fun t142 => (if t142 = 0 then (pack_Steepest.l0 k 60 l0_0) else (some (0, t142)))) = some (r1, r2) := h
  clear h
  replace H := Option.bind_eq_some_iff.mp H
  obtain ⟨t142, A20, H⟩ := H
  replace H : (if t142 = 0 then (pack_Steepest.l0 k 60 l0_0) else (some (0, t142))) = some (r1, r2) := H
  have A2 := Aside0.mk A20
  clear A20
  by_cases c3 : t142 = 0
  · rw [if_pos c3] at H
    have c3b0 : (t142 == 0) = true := beq_iff_eq.mpr c3
    have c3b1 : (t142 != 0) = false := bne_eq_false_iff_eq.mpr c3
    clear c3
    have H' := Aside0.mk H
    clear H
    go_enter Tryd.func37, Tryd.ntmps37
    go_wp2_with (first | ((with_reducible refine gate_dst (N := 1) rfl ?_); refine box_event ?hg (N := 1) ?hd (cs := #[.slice A0_0 l0_0.length c0_0]) (t := 24) ?hr ?_; (case hd => rfl); (case hg => rfl); (case hr => first | (go_simp; done) | (go_simp; rfl)); intro gb141 hg w4 hbox hb; have n0_ := Aside0.mk (below_step (by repeat (first | (with_reducible first | exact HB.out | apply below_alloc | apply pw_below_drewN | apply below_drew1) | exact HB.out)) hb); have n1_ := Aside0.mk (hbox); have n2_ := Aside0.mk ((by rw [hg]; exact (below_size (by repeat (first | (with_reducible first | exact HB.out | apply below_alloc | apply pw_below_drewN | apply below_drew1) | exact HB.out))) : w.heap.size ≤ gb141)); have n3_ := Aside0.mk ((by rw [hg]; exact (below_size (by repeat (first | (with_reducible first | exact HB.out | apply below_alloc | apply pw_below_drewN | apply below_drew1) | exact HB.out))) : w.heap.size ≤ gb141)); clear HB; have HB := n0_; have BK141 := n1_; have GW141 := n2_; have GE141 := n3_; clear n0_ n1_ n2_ n3_; clear hb hbox hg; have hcz5_0 : w4.cell? ⟨gb141, 0, none⟩ = some (.slice A0_0 l0_0.length c0_0) := (blk_cell BK141.out 0).trans rfl; have hfz5_0 := blk_frozen BK141.out 0) | ((with_reducible refine gate_callee (f := 25) rfl ?_); refine goesL_ (some 7) rfl rfl Tryd.func25 (by kernel_rfl) rfl #[.agg #[.slice A0_0 l0_0.length c0_0]] rfl (by (try simp only [List.map_toArray, List.map_cons, List.map_nil]); first | done | rfl | (simp only [List.length_drop, List.length_take]; rfl)) ?_; (with_reducible refine (pack_Check.calls k _ _ l0_0 t142 _ ?side1 ?side2 A2.out).mono ?_); (case side1 => repeat (first | exact (Kd.C_below HR0_0.out HB.out) | (with_reducible refine Kd.C_alloc ?_ _) | (with_reducible refine Kd.C_drewN ?_ _) | (with_reducible refine Kd.C_drew ?_))); (case side2 => exact HC0_0.out); rintro e w6 ⟨rfl, hb⟩; refine ⟨_, rfl, ?_⟩; have n0_ := Aside0.mk (blk_below (g := gb141) (o := .cells #[.slice A0_0 l0_0.length c0_0] 24 (0, 0)) (by (with_reducible repeat (first | refine blk_drewN ?_ _ | refine blk_drew ?_ | refine blk_alloc ?_ _)); exact BK141.out) hb); have n1_ := Aside0.mk (below_step (by repeat (first | (with_reducible first | exact HB.out | apply below_alloc | apply pw_below_drewN | apply below_drew1 | refine below_set ?_ GE141.out) | exact HB.out)) hb); clear BK141; clear HB; have BK141 := n0_; have HB := n1_; clear n0_ n1_; (try clear hb); (try clear hb2); (try clear hk); (try clear hi)))
    go_loopg [5] k (fun kq v5 w' => ∃ (x5_1 : Int), v5 = .int .i64 x5_1 ∧ Aside0 (pack_Steepest.l0 kq x5_1 l0_0 = some (r1, r2)) ∧ Aside0 (kq ≤ k) ∧ Aside0 (w'.heap[gb141]? = some (.cells #[(.slice A0_0 l0_0.length c0_0)] 24 (0, 0))) ∧ Aside0 (Below w.heap.size w w'))
    case atStart => exact ⟨(60), (by first | rfl | (simp; done) | (simp [*]; done)), H', ⟨Nat.le_refl _⟩, ⟨by (with_reducible repeat (first | refine blk_drewN ?_ _ | refine blk_drew ?_ | refine blk_alloc ?_ _)); exact BK141.out⟩, ⟨by repeat (first | (with_reducible first | exact HB.out | apply below_alloc | apply pw_below_drewN | apply below_drew1 | refine below_set ?_ GE141.out) | exact HB.out)⟩⟩
    case round =>
      clear H'
      try clear c2
      try clear p2
      try clear c3
      try clear c3b0
      try clear c3b1
      try clear hcz5_0
      try clear hfz5_0
      obtain ⟨x5_1, rfl, HA, HK1, BK141, HB⟩ := hrel
      cases gk with
      | zero => exact absurd HA.out (by simp [pack_Steepest.l0])
      | succ k1 =>
        have H := HA.out
        clear HA
        simp only [pack_Steepest.l0] at H
        by_cases c7 : x5_1 > 0
        · rw [if_pos c7] at H
          have c7b0 : decide (0 < x5_1) = true := decide_eq_true c7
          clear c7
          replace H := Option.bind_eq_some_iff.mp H
          obtain ⟨t143, A80, H⟩ := H
          replace H : (if t143 = true then (pack_Steepest.l0 k1 (wrap64 (x5_1 - 1)) l0_0) else (some (x5_1, 0))) = some (r1, r2) := H
          have A8 := Aside0.mk A80
          clear A80
          by_cases c9 : t143 = true
          · subst c9
            have H1 : (pack_Steepest.l0 k1 (wrap64 (x5_1 - 1)) l0_0) = some (r1, r2) := by rw [if_pos rfl] at H; exact H
            clear H
            have H := H1
            clear H1
            have H' := Aside0.mk H
            clear H
            have hcz10_0 : wr.cell? ⟨gb141, 0, none⟩ = some (.slice A0_0 l0_0.length c0_0) := (blk_cell BK141.out 0).trans rfl
            have hfz10_0 := blk_frozen BK141.out 0
            go_wp2_with (first | (go_at_call 79; (with_reducible refine (pack_breaks.calls _ _ l0_0 x5_1 true _ ?side1 ?side2 A8.out).mono ?_); (case side1 => repeat (first | exact (Kd.C_below HR0_0.out HB.out) | (with_reducible refine Kd.C_alloc ?_ _) | (with_reducible refine Kd.C_drewN ?_ _) | (with_reducible refine Kd.C_drew ?_))); (case side2 => exact HC0_0.out); rintro e w11 ⟨rfl, hb⟩; have n0_ := Aside0.mk (blk_below (g := gb141) (o := .cells #[.slice A0_0 l0_0.length c0_0] 24 (0, 0)) (by (with_reducible repeat (first | refine blk_drewN ?_ _ | refine blk_drew ?_ | refine blk_alloc ?_ _)); exact BK141.out) hb); have n1_ := Aside0.mk (below_step (by repeat (first | (with_reducible first | exact HB.out | apply below_alloc | apply pw_below_drewN | apply below_drew1 | refine below_set ?_ GE141.out) | exact HB.out)) hb); clear BK141; clear HB; have BK141 := n0_; have HB := n1_; clear n0_ n1_; (try clear hb); (try clear hb2); (try clear hk); (try clear hi)))
            go_roundg k1
            case measure => have := HK1.out; omega
            case rel => exact ⟨(wrap64 (x5_1 - 1)), (by first | rfl | (simp; done) | (simp [*]; done)), H', ⟨by have := HK1.out; omega⟩, ⟨by (with_reducible repeat (first | refine blk_drewN ?_ _ | refine blk_drew ?_ | refine blk_alloc ?_ _)); exact BK141.out⟩, ⟨by repeat (first | (with_reducible first | exact HB.out | apply below_alloc | apply pw_below_drewN | apply below_drew1 | refine below_set ?_ GE141.out) | exact HB.out)⟩⟩
          · replace c9 := Bool.eq_false_iff.mpr c9
            subst c9
            have H1 : (some (x5_1, 0)) = some (r1, r2) := by rw [if_neg (show ¬ (false = true) by decide)] at H; exact H
            clear H
            have H := H1
            clear H1
            simp only [Option.some.injEq, Prod.mk.injEq] at H
            obtain ⟨rfl, rfl⟩ := H
            have hcz12_0 : wr.cell? ⟨gb141, 0, none⟩ = some (.slice A0_0 l0_0.length c0_0) := (blk_cell BK141.out 0).trans rfl
            have hfz12_0 := blk_frozen BK141.out 0
            go_wp2_with (first | (go_at_call 79; (with_reducible refine (pack_breaks.calls _ _ l0_0 x5_1 false _ ?side1 ?side2 A8.out).mono ?_); (case side1 => repeat (first | exact (Kd.C_below HR0_0.out HB.out) | (with_reducible refine Kd.C_alloc ?_ _) | (with_reducible refine Kd.C_drewN ?_ _) | (with_reducible refine Kd.C_drew ?_))); (case side2 => exact HC0_0.out); rintro e w13 ⟨rfl, hb⟩; have n0_ := Aside0.mk (blk_below (g := gb141) (o := .cells #[.slice A0_0 l0_0.length c0_0] 24 (0, 0)) (by (with_reducible repeat (first | refine blk_drewN ?_ _ | refine blk_drew ?_ | refine blk_alloc ?_ _)); exact BK141.out) hb); have n1_ := Aside0.mk (below_step (by repeat (first | (with_reducible first | exact HB.out | apply below_alloc | apply pw_below_drewN | apply below_drew1 | refine below_set ?_ GE141.out) | exact HB.out)) hb); clear BK141; clear HB; have BK141 := n0_; have HB := n1_; clear n0_ n1_; (try clear hb); (try clear hb2); (try clear hk); (try clear hi)))
            go_ret2
            exact ⟨by first | rfl | (simp [errW_none, errW_some] <;> rfl) | (simp [*, errW_none, errW_some] <;> rfl), by repeat (first | (with_reducible first | exact HB.out | apply below_alloc | apply pw_below_drewN | apply below_drew1 | refine below_set ?_ GE141.out) | exact HB.out)⟩
        · rw [if_neg c7] at H
          have c7b0 : decide (0 < x5_1) = false := decide_eq_false c7
          clear c7
          simp only [Option.some.injEq, Prod.mk.injEq] at H
          obtain ⟨rfl, rfl⟩ := H
          go_wp2
          go_ret2
          exact ⟨by first | rfl | (simp [errW_none, errW_some] <;> rfl) | (simp [*, errW_none, errW_some] <;> rfl), by repeat (first | (with_reducible first | exact HB.out | apply below_alloc | apply pw_below_drewN | apply below_drew1 | refine below_set ?_ GE141.out) | exact HB.out)⟩
  · rw [if_neg c3] at H
    have c3b0 : (t142 == 0) = false := beq_eq_false_iff_ne.mpr c3
    have c3b1 : (t142 != 0) = true := bne_iff_ne.mpr c3
    simp only [Option.some.injEq, Prod.mk.injEq] at H
    obtain ⟨rfl, rfl⟩ := H
    go_enter Tryd.func37, Tryd.ntmps37
    go_wp2_with (first | ((with_reducible refine gate_dst (N := 1) rfl ?_); refine box_event ?hg (N := 1) ?hd (cs := #[.slice A0_0 l0_0.length c0_0]) (t := 24) ?hr ?_; (case hd => rfl); (case hg => rfl); (case hr => first | (go_simp; done) | (go_simp; rfl)); intro gb141 hg w14 hbox hb; have n0_ := Aside0.mk (below_step (by repeat (first | (with_reducible first | exact HB.out | apply below_alloc | apply pw_below_drewN | apply below_drew1) | exact HB.out)) hb); have n1_ := Aside0.mk (hbox); have n2_ := Aside0.mk ((by rw [hg]; exact (below_size (by repeat (first | (with_reducible first | exact HB.out | apply below_alloc | apply pw_below_drewN | apply below_drew1) | exact HB.out))) : w.heap.size ≤ gb141)); have n3_ := Aside0.mk ((by rw [hg]; exact (below_size (by repeat (first | (with_reducible first | exact HB.out | apply below_alloc | apply pw_below_drewN | apply below_drew1) | exact HB.out))) : w.heap.size ≤ gb141)); clear HB; have HB := n0_; have BK141 := n1_; have GW141 := n2_; have GE141 := n3_; clear n0_ n1_ n2_ n3_; clear hb hbox hg; have hcz15_0 : w14.cell? ⟨gb141, 0, none⟩ = some (.slice A0_0 l0_0.length c0_0) := (blk_cell BK141.out 0).trans rfl; have hfz15_0 := blk_frozen BK141.out 0) | ((with_reducible refine gate_callee (f := 25) rfl ?_); refine goesL_ (some 7) rfl rfl Tryd.func25 (by kernel_rfl) rfl #[.agg #[.slice A0_0 l0_0.length c0_0]] rfl (by (try simp only [List.map_toArray, List.map_cons, List.map_nil]); first | done | rfl | (simp only [List.length_drop, List.length_take]; rfl)) ?_; (with_reducible refine (pack_Check.calls k _ _ l0_0 t142 _ ?side1 ?side2 A2.out).mono ?_); (case side1 => repeat (first | exact (Kd.C_below HR0_0.out HB.out) | (with_reducible refine Kd.C_alloc ?_ _) | (with_reducible refine Kd.C_drewN ?_ _) | (with_reducible refine Kd.C_drew ?_))); (case side2 => exact HC0_0.out); rintro e w16 ⟨rfl, hb⟩; refine ⟨_, rfl, ?_⟩; have n0_ := Aside0.mk (blk_below (g := gb141) (o := .cells #[.slice A0_0 l0_0.length c0_0] 24 (0, 0)) (by (with_reducible repeat (first | refine blk_drewN ?_ _ | refine blk_drew ?_ | refine blk_alloc ?_ _)); exact BK141.out) hb); have n1_ := Aside0.mk (below_step (by repeat (first | (with_reducible first | exact HB.out | apply below_alloc | apply pw_below_drewN | apply below_drew1 | refine below_set ?_ GE141.out) | exact HB.out)) hb); clear BK141; clear HB; have BK141 := n0_; have HB := n1_; clear n0_ n1_; (try clear hb); (try clear hb2); (try clear hk); (try clear hi)))
    go_ret2
    exact ⟨by first | rfl | (simp [errW_none, errW_some] <;> rfl) | (simp [*, errW_none, errW_some] <;> rfl), by repeat (first | (with_reducible first | exact HB.out | apply below_alloc | apply pw_below_drewN | apply below_drew1 | refine below_set ?_ GE141.out) | exact HB.out)⟩
def snowlinelaw02_example.f  : Option ((List (S48))) := some (([(⟨40, 2, 0⟩ : S48), (⟨100, 0, 5⟩ : S48)] : List (S48)))
set_option maxHeartbeats 8000000 in
set_option maxRecDepth 100000 in
theorem snowlinelaw02_example.calls  (r : List (S48)) (w : World) (h : snowlinelaw02_example.f  = some r) :
    Calls Tryd.prog 57 #[] w fun e w' => ∃ v0_ : Value, e = .returned (.agg #[v0_]) ∧ Kd.R k48 48 w' w.heap.size (fun _ => True) v0_ r ∧ Below w.heap.size w w' := by
  have hu24 := Tryd.underlying24
  have hu48 := Tryd.underlying48
  have HB := Aside0.mk (Below.refl w.heap.size w)
  have H : (some (([(⟨40, 2, 0⟩ : S48), (⟨100, 0, 5⟩ : S48)] : List (S48)))) = some r := h
  clear h
  obtain ⟨y145, hy145⟩ : ∃ y_ : List (S48), y_ = (([(⟨40, 2, 0⟩ : S48), (⟨100, 0, 5⟩ : S48)] : List (S48))) := ⟨_, rfl⟩
  replace H : (some y145) = some r := by first | (rw [hy145]; with_reducible exact H) | (have H2_ := (Option.bind_some _ _).symm.trans H; rw [hy145]; with_reducible exact H2_) | (have H2_ := (Option.bind_some _ _).symm.trans H; with_reducible exact H2_) | with_reducible exact H | (rw [hy145]; exact H) | exact H
  have Ny145 := Aside0.mk hy145
  clear hy145
  obtain rfl := Option.some.inj H
  go_enter Tryd.func57, Tryd.ntmps57
  go_wp2_with (first | ((with_reducible refine gate_dst (N := 0) rfl ?_); refine box_event ?hg (N := 0) ?hd (cs := #[.slice none 0 0]) (t := 24) ?hr ?_; (case hd => rfl); (case hg => rfl); (case hr => first | (go_simp; done) | (go_simp; rfl)); intro gb144 hg w1 hbox hb; have n0_ := Aside0.mk (below_step (by repeat (first | (with_reducible first | exact HB.out | apply below_alloc | apply pw_below_drewN | apply below_drew1) | exact HB.out)) hb); have n1_ := Aside0.mk (hbox); have n2_ := Aside0.mk ((by rw [hg]; exact (below_size (by repeat (first | (with_reducible first | exact HB.out | apply below_alloc | apply pw_below_drewN | apply below_drew1) | exact HB.out))) : w.heap.size ≤ gb144)); have n3_ := Aside0.mk ((by rw [hg]; exact (below_size (by repeat (first | (with_reducible first | exact HB.out | apply below_alloc | apply pw_below_drewN | apply below_drew1) | exact HB.out))) : w.heap.size ≤ gb144)); clear HB; have HB := n0_; have BK144 := n1_; have GW144 := n2_; have GE144 := n3_; clear n0_ n1_ n2_ n3_; clear hb hbox hg) | ((with_reducible refine gate_dst (N := 3) rfl ?_); refine Kd.R_lit k48 _ 48 ?hg (N := 3) ?hd (xs := ([(⟨40, 2, 0⟩ : S48), (⟨100, 0, 5⟩ : S48)] : List (S48))) (inner := [.int .i64 40, .int .i64 2, .int .i64 0, .int .i64 100, .int .i64 0, .int .i64 5]) (ok := fun _ => True) (okp := fun _ => True) ?hr ?hp (fun _ hk => hk) trivial (Below.refl _ _) (Nat.le_refl _) (by simp) ?_; (case hd => rfl); (case hg => rfl); (case hr => first | (go_simp; done) | (go_simp; rfl)); (case hp => exact (Reps.c3 (show Kd.M k48 _ _ _ (⟨40, 2, 0⟩ : S48) [.int .i64 40, .int .i64 2, .int .i64 0] from (k48_mkM _ _ _ (⟨40, 2, 0⟩ : S48) )) (Reps.c3 (show Kd.M k48 _ _ _ (⟨100, 0, 5⟩ : S48) [.int .i64 100, .int .i64 0, .int .i64 5] from (k48_mkM _ _ _ (⟨100, 0, 5⟩ : S48) )) (Reps.none _ _)))); intro v146 w2 ho3 hb hg_ hnew_; clear hg_ hnew_; (first | rw [← Ny145.out] at ho3 | (simp only [Int.reduceToNat] at ho3; rw [← Ny145.out] at ho3)); have n0_ := Aside0.mk (Kd.R_lower ho3 (below_size (by repeat (first | (with_reducible first | exact HB.out | apply below_alloc | apply pw_below_drewN | apply below_drew1 | refine below_set ?_ GE144.out) | exact HB.out)))); have n1_ := Aside0.mk (blk_below (g := gb144) (o := .cells #[.slice none 0 0] 24 (0, 0)) (by (with_reducible repeat (first | refine blk_drewN ?_ _ | refine blk_drew ?_ | refine blk_alloc ?_ _)); exact BK144.out) hb); have n2_ := Aside0.mk (below_step (by repeat (first | (with_reducible first | exact HB.out | apply below_alloc | apply pw_below_drewN | apply below_drew1 | refine below_set ?_ GE144.out) | exact HB.out)) hb); clear BK144; clear HB; have HO147 := n0_; have BK144 := n1_; have HB := n2_; clear n0_ n1_ n2_; clear hb ho3; obtain ⟨Ao4, co4, eo4⟩ := Kd.R_slice HO147.out; subst eo4; have hcz5_0 : w2.cell? ⟨gb144, 0, none⟩ = some (.slice none 0 0) := (blk_cell BK144.out 0).trans rfl; have hfz5_0 := blk_frozen BK144.out 0))
  refine bodyPost_ret (results_cell_row rfl _ _ gb144 24 #[.slice Ao4 y145.length co4] (0, 0) _ rfl (by (with_reducible repeat (first | refine blk_drewN ?_ _ | refine blk_drew ?_ | refine blk_alloc ?_ _)); refine blk_put (cs := #[.slice none 0 0]) ?_ 0 _ rfl; (with_reducible repeat (first | refine blk_drewN ?_ _ | refine blk_drew ?_ | refine blk_alloc ?_ _)); exact BK144.out) Tryd.underlying24 rfl (by kernel_rfl)) rfl ?_
  exact ⟨_, by first | rfl | (simp [errW_none, errW_some] <;> rfl) | (simp [*, errW_none, errW_some] <;> rfl), by (with_reducible repeat (first | apply Kd.R_alloc | apply Kd.R_drewN | apply Kd.R_drew)); exact Kd.R_mono (Kd.R_far (p := ⟨gb144, 0, none⟩) (Kd.R_types HO147.out BK144.out (by decide)) (fun _ hk => hk.2) (.slice Ao4 y145.length co4)) (fun _ hk => trivial), by repeat (first | (with_reducible first | exact HB.out | apply below_alloc | apply pw_below_drewN | apply below_drew1 | refine below_set ?_ GE144.out) | exact HB.out)⟩
end Go.Proofs.YtpldcikmlpegpaaDoor.PB
end
section
namespace Go.Proofs.YtpldcikmlpegpaaDoor.PB
open Go.RowKit Go.Proofs.YtpldcikmlpegpaaDoorW.PrintWords Go.Proofs.YtpldcikmlpegpaaDoorW.PrintLast Go.Proofs.YtpldcikmlpegpaaDoorW.PrintMore
attribute [local go_sem] max2_int min2_int max_two min_two max_three min_three max_four min_four   -- for this text's walks alone
set_option linter.unusedVariables false
set_option linter.unusedSimpArgs false
def pack_Print.l0 : Nat → List ByteArray → List (S48) → Int → Int → Option (ByteArray × Int)
  | 0, _, _, _, _ => none
  | k + 1, x5, x15, x16, x17 => if x17 < x16 then (if 0 ≤ x17 then (if x17 < (x15.length : Int) then ((strconv_Itoa.f ((rd_T48 x15 x17).f0)).bind fun t155 => (if t155.size + 1 ≤ 9223372036854775807 then ((strconv_Itoa.f ((rd_T48 x15 x17).f1)).bind fun t156 => (if (t155 ++ (⟨#[47]⟩ : ByteArray)).size + t156.size ≤ 9223372036854775807 then (if ((t155 ++ (⟨#[47]⟩ : ByteArray)) ++ t156).size + 1 ≤ 9223372036854775807 then ((strconv_Itoa.f ((rd_T48 x15 x17).f2)).bind fun t157 => (if (((t155 ++ (⟨#[47]⟩ : ByteArray)) ++ t156) ++ (⟨#[47]⟩ : ByteArray)).size + t157.size ≤ 9223372036854775807 then (if x5.length < 8796093022208 then (pack_Print.l0 k (x5 ++ [(((t155 ++ (⟨#[47]⟩ : ByteArray)) ++ t156) ++ (⟨#[47]⟩ : ByteArray)) ++ t157]) x15 x16 (wrap64 (x17 + 1))) else (none)) else (none))) else (none)) else (none))) else (none))) else (none)) else (none)) else ((strings_Join.f x5 (⟨#[32]⟩ : ByteArray)).bind fun t161 => (some (t161, 0)))
def pack_Print.f (k : Nat) (l0_0 : List (S48)) : Option (ByteArray × Int) := (pack_Check.f k l0_0).bind fun t149 => (if t149 = 0 then (pack_Print.l0 k (([(⟨#[112, 97, 99, 107]⟩ : ByteArray)] : List ByteArray)) l0_0 (l0_0.length : Int) 0) else (some ((⟨#[]⟩ : ByteArray), t149)))
def pack_Print.T8 : Bool × List (List Nat × List Nat) := (true, [([], []), ([], []), ([1], [1]), ([2], [2]), ([3], [3]), ([], []), ([5], [5]), ([6, 3], [6]), ([4, 7], [4, 7]), ([8], [8]), ([], []), ([10], [10]), ([11, 7], [11]), ([9, 12], [9, 12]), ([13], [13]), ([0, 14, 12], [0, 14]), ([15, 15, 0, 1, 2, 3, 4, 5, 6, 7, 8, 9, 10, 11, 12, 13, 14, 15], [0, 15])])
def pack_Print.B8 : List Nat := [0, 0, 2, 6, 14, 0, 32, 110, 254, 510, 0, 1024, 3310, 8190, 16382, 32767, 65535]
theorem pack_Print.tab8 : rtab .any (opsOf Tryd.f58 8) = pack_Print.T8 := by kernel_rfl
theorem pack_Print.bits8 : waitsOk pack_Print.T8.2 pack_Print.B8 = true := by kernel_rfl
set_option maxHeartbeats 8000000 in
set_option maxRecDepth 100000 in
theorem pack_Print.calls (k : Nat) (A0_0 : Option Addr) (c0_0 : Nat) (l0_0 : List (S48)) (r1 : ByteArray) (r2 : Int) (w : World) (hr0_0 : Kd.C k48 w A0_0 l0_0.length l0_0) (hc0_0 : l0_0.length ≤ c0_0) (hG : Glob w) (h : pack_Print.f k l0_0 = some (r1, r2)) :
    Calls Tryd.prog 58 #[.agg #[.slice A0_0 l0_0.length c0_0]] w fun e w' => e = .returned (.tuple #[.string r1, .int .i64 r2]) ∧ Below w.heap.size w w' := by
  have hu24 := Tryd.underlying24
  have hu48 := Tryd.underlying48
  have HR0_0 := Aside0.mk hr0_0
  have HC0_0 := Aside0.mk hc0_0
  clear hr0_0 hc0_0
  have HB := Aside0.mk (Below.refl w.heap.size w)
  have HGl := Aside0.mk hG
  clear hG
  have H : ((pack_Check.f k l0_0).bind fun t149 => (if t149 = 0 then (pack_Print.l0 k (([(⟨#[112, 97, 99, 107]⟩ : ByteArray)] : List ByteArray)) l0_0 (l0_0.length : Int) 0) else (some ((⟨#[]⟩ : ByteArray), t149)))) = some (r1, r2) := h
  clear h
  replace H := Option.bind_eq_some_iff.mp H
  obtain ⟨t149, A20, H⟩ := H
  replace H : (if t149 = 0 then (pack_Print.l0 k (([(⟨#[112, 97, 99, 107]⟩ : ByteArray)] : List ByteArray)) l0_0 (l0_0.length : Int) 0) else (some ((⟨#[]⟩ : ByteArray), t149))) = some (r1, r2) := H
  have A2 := Aside0.mk A20
  clear A20
  by_cases c3 : t149 = 0
  · rw [if_pos c3] at H
    have c3b0 : (t149 == 0) = true := beq_iff_eq.mpr c3
    have c3b1 : (t149 != 0) = false := bne_eq_false_iff_eq.mpr c3
    clear c3
    obtain ⟨y150, hy150⟩ : ∃ y_ : List ByteArray, y_ = (([(⟨#[112, 97, 99, 107]⟩ : ByteArray)] : List ByteArray)) := ⟨_, rfl⟩
    replace H : (pack_Print.l0 k y150 l0_0 (l0_0.length : Int) 0) = some (r1, r2) := by first | (rw [hy150]; with_reducible exact H) | (have H2_ := (Option.bind_some _ _).symm.trans H; rw [hy150]; with_reducible exact H2_) | (have H2_ := (Option.bind_some _ _).symm.trans H; with_reducible exact H2_) | with_reducible exact H | (rw [hy150]; exact H) | exact H
    have Ny150 := Aside0.mk hy150
    clear hy150
    have H' := Aside0.mk H
    clear H
    go_enter Tryd.func58, Tryd.ntmps58
    go_wp2_with (first | ((with_reducible refine gate_dst (N := 1) rfl ?_); refine box_event ?hg (N := 1) ?hd (cs := #[.slice A0_0 l0_0.length c0_0]) (t := 24) ?hr ?_; (case hd => rfl); (case hg => rfl); (case hr => first | (go_simp; done) | (go_simp; rfl)); intro gb148 hg w4 hbox hb; have n0_ := Aside0.mk (below_step (by repeat (first | (with_reducible first | exact HB.out | apply below_alloc | apply pw_below_drewN | apply below_drew1) | exact HB.out)) hb); have n1_ := Aside0.mk (hbox); have n2_ := Aside0.mk ((by rw [hg]; exact (below_size (by repeat (first | (with_reducible first | exact HB.out | apply below_alloc | apply pw_below_drewN | apply below_drew1) | exact HB.out))) : w.heap.size ≤ gb148)); have n3_ := Aside0.mk ((by rw [hg]; exact (below_size (by repeat (first | (with_reducible first | exact HB.out | apply below_alloc | apply pw_below_drewN | apply below_drew1) | exact HB.out))) : w.heap.size ≤ gb148)); clear HB; have HB := n0_; have BK148 := n1_; have GW148 := n2_; have GE148 := n3_; clear n0_ n1_ n2_ n3_; clear hb hbox hg; have hcz5_0 : w4.cell? ⟨gb148, 0, none⟩ = some (.slice A0_0 l0_0.length c0_0) := (blk_cell BK148.out 0).trans rfl; have hfz5_0 := blk_frozen BK148.out 0) | ((with_reducible refine gate_callee (f := 25) rfl ?_); refine goesL_ (some 9) rfl rfl Tryd.func25 (by kernel_rfl) rfl #[.agg #[.slice A0_0 l0_0.length c0_0]] rfl (by (try simp only [List.map_toArray, List.map_cons, List.map_nil]); first | done | rfl | (simp only [List.length_drop, List.length_take]; rfl)) ?_; (with_reducible refine (pack_Check.calls k _ _ l0_0 t149 _ ?side1 ?side2 A2.out).mono ?_); (case side1 => repeat (first | exact (Kd.C_below HR0_0.out HB.out) | (with_reducible refine Kd.C_alloc ?_ _) | (with_reducible refine Kd.C_drewN ?_ _) | (with_reducible refine Kd.C_drew ?_))); (case side2 => exact HC0_0.out); rintro e w6 ⟨rfl, hb⟩; refine ⟨_, rfl, ?_⟩; have n0_ := Aside0.mk (blk_below (g := gb148) (o := .cells #[.slice A0_0 l0_0.length c0_0] 24 (0, 0)) (by (with_reducible repeat (first | refine blk_drewN ?_ _ | refine blk_drew ?_ | refine blk_alloc ?_ _)); exact BK148.out) hb); have n1_ := Aside0.mk (below_step (by repeat (first | (with_reducible first | exact HB.out | apply below_alloc | apply pw_below_drewN | apply below_drew1 | refine below_set ?_ GE148.out) | exact HB.out)) hb); clear BK148; clear HB; have BK148 := n0_; have HB := n1_; clear n0_ n1_; (try clear hb); (try clear hb2); (try clear hk); (try clear hi)) | ((with_reducible refine gate_dst (N := 13) rfl ?_); refine Kd.R_lit Kd.string _ 9 ?hg (N := 13) ?hd (xs := ([(⟨#[112, 97, 99, 107]⟩ : ByteArray)] : List ByteArray)) (inner := [.string (⟨#[112, 97, 99, 107]⟩ : ByteArray)]) (ok := fun _ => True) (okp := fun _ => True) ?hr ?hp (fun _ hk => hk) trivial (Below.refl _ _) (Nat.le_refl _) (by simp) ?_; (case hd => rfl); (case hg => rfl); (case hr => first | (go_simp; done) | (go_simp; rfl)); (case hp => exact (Reps.one (show Kd.M Kd.string _ _ _ (⟨#[112, 97, 99, 107]⟩ : ByteArray) [.string (⟨#[112, 97, 99, 107]⟩ : ByteArray)] from rfl) (Reps.none _ _))); intro v151 w7 ho8 hb hg_ hnew_; clear hg_ hnew_; (first | rw [← Ny150.out] at ho8 | (simp only [Int.reduceToNat] at ho8; rw [← Ny150.out] at ho8)); have n0_ := Aside0.mk (Kd.R_lower ho8 (below_size (by repeat (first | (with_reducible first | exact HB.out | apply below_alloc | apply pw_below_drewN | apply below_drew1 | refine below_set ?_ GE148.out) | exact HB.out)))); have n1_ := Aside0.mk (blk_below (g := gb148) (o := .cells #[.slice A0_0 l0_0.length c0_0] 24 (0, 0)) (by (with_reducible repeat (first | refine blk_drewN ?_ _ | refine blk_drew ?_ | refine blk_alloc ?_ _)); exact BK148.out) hb); have n2_ := Aside0.mk (below_step (by repeat (first | (with_reducible first | exact HB.out | apply below_alloc | apply pw_below_drewN | apply below_drew1 | refine below_set ?_ GE148.out) | exact HB.out)) hb); clear BK148; clear HB; have HO152 := n0_; have BK148 := n1_; have HB := n2_; clear n0_ n1_ n2_; clear hb ho8; have hcz9_0 : w7.cell? ⟨gb148, 0, none⟩ = some (.slice A0_0 l0_0.length c0_0) := (blk_cell BK148.out 0).trans rfl; have hfz9_0 := blk_frozen BK148.out 0))
    go_loopg [5, 17] k (fun kq v5 v17 w' => ∃ (x5_1 : List ByteArray) (x17_1 : Int), v17 = .int .i64 x17_1 ∧ Aside0 (pack_Print.l0 kq x5_1 l0_0 (l0_0.length : Int) x17_1 = some (r1, r2)) ∧ Aside0 (kq ≤ k) ∧ Aside0 (Kd.R Kd.string 9 w' w.heap.size (fun _ => True) v5 x5_1) ∧ Aside0 (w'.heap[gb148]? = some (.cells #[(.slice A0_0 l0_0.length c0_0)] 24 (0, 0))) ∧ Aside0 (Below w.heap.size w w'))
    case atStart => exact ⟨(y150), (0), (by first | rfl | (simp; done) | (simp [*]; done)), H', ⟨Nat.le_refl _⟩, ⟨by (with_reducible repeat (first | apply Kd.R_alloc | apply Kd.R_drewN | apply Kd.R_drew)); exact HO152.out⟩, ⟨by (with_reducible repeat (first | refine blk_drewN ?_ _ | refine blk_drew ?_ | refine blk_alloc ?_ _)); exact BK148.out⟩, ⟨by repeat (first | (with_reducible first | exact HB.out | apply below_alloc | apply pw_below_drewN | apply below_drew1 | refine below_set ?_ GE148.out) | exact HB.out)⟩⟩
    case round =>
      clear H'
      try clear c2
      try clear p2
      try clear c3
      try clear c3b0
      try clear c3b1
      try clear c5
      try clear hcz5_0
      try clear hcz9_0
      try clear hfz5_0
      try clear hfz9_0
      obtain ⟨x5_1, x17_1, rfl, HA, HK1, HO_5, BK148, HB⟩ := hrel
      cases gk with
      | zero => exact absurd HA.out (by simp [pack_Print.l0])
      | succ k1 =>
        have H := HA.out
        clear HA
        simp only [pack_Print.l0] at H
        by_cases c10 : x17_1 < (l0_0.length : Int)
        · rw [if_pos c10] at H
          have c10b0 : decide (x17_1 < (l0_0.length : Int)) = true := decide_eq_true c10
          clear c10
          by_cases c11 : 0 ≤ x17_1
          · rw [if_pos c11] at H
            have c11b0 : decide (0 ≤ x17_1) = true := decide_eq_true c11
            clear c11
            by_cases c12 : x17_1 < (l0_0.length : Int)
            · rw [if_pos c12] at H
              have c12b0 : decide (x17_1 < (l0_0.length : Int)) = true := decide_eq_true c12
              clear c12
              replace H := Option.bind_eq_some_iff.mp H
              obtain ⟨t155, A130, H⟩ := H
              replace H : (if t155.size + 1 ≤ 9223372036854775807 then ((strconv_Itoa.f ((rd_T48 l0_0 x17_1).f1)).bind fun t156 => (if (t155 ++ (⟨#[47]⟩ : ByteArray)).size + t156.size ≤ 9223372036854775807 then (if ((t155 ++ (⟨#[47]⟩ : ByteArray)) ++ t156).size + 1 ≤ 9223372036854775807 then ((strconv_Itoa.f ((rd_T48 l0_0 x17_1).f2)).bind fun t157 => (if (((t155 ++ (⟨#[47]⟩ : ByteArray)) ++ t156) ++ (⟨#[47]⟩ : ByteArray)).size + t157.size ≤ 9223372036854775807 then (if x5_1.length < 8796093022208 then (pack_Print.l0 k1 (x5_1 ++ [(((t155 ++ (⟨#[47]⟩ : ByteArray)) ++ t156) ++ (⟨#[47]⟩ : ByteArray)) ++ t157]) l0_0 (l0_0.length : Int) (wrap64 (x17_1 + 1))) else (none)) else (none))) else (none)) else (none))) else (none)) = some (r1, r2) := H
              have A13 := Aside0.mk A130
              clear A130
              by_cases c14 : t155.size + 1 ≤ 9223372036854775807
              · rw [if_pos c14] at H
                have c14b0 := eq_true c14
                have c14b1 : decide (t155.size + 1 ≤ 9223372036854775807) = true := decide_eq_true c14
                try have c14b2 : (9223372036854775807 < t155.size + 1) = False := eq_false (Nat.not_lt.2 c14)
                replace H := Option.bind_eq_some_iff.mp H
                obtain ⟨t156, A150, H⟩ := H
                replace H : (if (t155 ++ (⟨#[47]⟩ : ByteArray)).size + t156.size ≤ 9223372036854775807 then (if ((t155 ++ (⟨#[47]⟩ : ByteArray)) ++ t156).size + 1 ≤ 9223372036854775807 then ((strconv_Itoa.f ((rd_T48 l0_0 x17_1).f2)).bind fun t157 => (if (((t155 ++ (⟨#[47]⟩ : ByteArray)) ++ t156) ++ (⟨#[47]⟩ : ByteArray)).size + t157.size ≤ 9223372036854775807 then (if x5_1.length < 8796093022208 then (pack_Print.l0 k1 (x5_1 ++ [(((t155 ++ (⟨#[47]⟩ : ByteArray)) ++ t156) ++ (⟨#[47]⟩ : ByteArray)) ++ t157]) l0_0 (l0_0.length : Int) (wrap64 (x17_1 + 1))) else (none)) else (none))) else (none)) else (none)) = some (r1, r2) := H
                have A15 := Aside0.mk A150
                clear A150
                by_cases c16 : (t155 ++ (⟨#[47]⟩ : ByteArray)).size + t156.size ≤ 9223372036854775807
                · rw [if_pos c16] at H
                  have c16b0 := eq_true c16
                  have c16b1 : decide ((t155 ++ (⟨#[47]⟩ : ByteArray)).size + t156.size ≤ 9223372036854775807) = true := decide_eq_true c16
                  try have c16b2 : (9223372036854775807 < (t155 ++ (⟨#[47]⟩ : ByteArray)).size + t156.size) = False := eq_false (Nat.not_lt.2 c16)
                  have c16n := c16b2
                  simp only [ByteArray.size_append, show (⟨#[47]⟩ : ByteArray).size = 1 from rfl, show (⟨#[32]⟩ : ByteArray).size = 1 from rfl] at c16n
                  by_cases c17 : ((t155 ++ (⟨#[47]⟩ : ByteArray)) ++ t156).size + 1 ≤ 9223372036854775807
                  · rw [if_pos c17] at H
                    have c17b0 := eq_true c17
                    have c17b1 : decide (((t155 ++ (⟨#[47]⟩ : ByteArray)) ++ t156).size + 1 ≤ 9223372036854775807) = true := decide_eq_true c17
                    try have c17b2 : (9223372036854775807 < ((t155 ++ (⟨#[47]⟩ : ByteArray)) ++ t156).size + 1) = False := eq_false (Nat.not_lt.2 c17)
                    have c17n := c17b2
                    simp only [ByteArray.size_append, show (⟨#[47]⟩ : ByteArray).size = 1 from rfl, show (⟨#[32]⟩ : ByteArray).size = 1 from rfl] at c17n
                    replace H := Option.bind_eq_some_iff.mp H
                    obtain ⟨t157, A180, H⟩ := H
                    replace H : (if (((t155 ++ (⟨#[47]⟩ : ByteArray)) ++ t156) ++ (⟨#[47]⟩ : ByteArray)).size + t157.size ≤ 9223372036854775807 then (if x5_1.length < 8796093022208 then (pack_Print.l0 k1 (x5_1 ++ [(((t155 ++ (⟨#[47]⟩ : ByteArray)) ++ t156) ++ (⟨#[47]⟩ : ByteArray)) ++ t157]) l0_0 (l0_0.length : Int) (wrap64 (x17_1 + 1))) else (none)) else (none)) = some (r1, r2) := H
                    have A18 := Aside0.mk A180
                    clear A180
                    by_cases c19 : (((t155 ++ (⟨#[47]⟩ : ByteArray)) ++ t156) ++ (⟨#[47]⟩ : ByteArray)).size + t157.size ≤ 9223372036854775807
                    · rw [if_pos c19] at H
                      have c19b0 := eq_true c19
                      have c19b1 : decide ((((t155 ++ (⟨#[47]⟩ : ByteArray)) ++ t156) ++ (⟨#[47]⟩ : ByteArray)).size + t157.size ≤ 9223372036854775807) = true := decide_eq_true c19
                      try have c19b2 : (9223372036854775807 < (((t155 ++ (⟨#[47]⟩ : ByteArray)) ++ t156) ++ (⟨#[47]⟩ : ByteArray)).size + t157.size) = False := eq_false (Nat.not_lt.2 c19)
                      have c19n := c19b2
                      simp only [ByteArray.size_append, show (⟨#[47]⟩ : ByteArray).size = 1 from rfl, show (⟨#[32]⟩ : ByteArray).size = 1 from rfl] at c19n
                      by_cases c20 : x5_1.length < 8796093022208
                      · rw [if_pos c20] at H
                        have LMc20 := Aside0.mk c20
                        clear c20
                        obtain ⟨y158, hy158⟩ : ∃ y_ : List ByteArray, y_ = (x5_1 ++ [(((t155 ++ (⟨#[47]⟩ : ByteArray)) ++ t156) ++ (⟨#[47]⟩ : ByteArray)) ++ t157]) := ⟨_, rfl⟩
                        replace H : (pack_Print.l0 k1 y158 l0_0 (l0_0.length : Int) (wrap64 (x17_1 + 1))) = some (r1, r2) := by first | (rw [hy158]; with_reducible exact H) | (have H2_ := (Option.bind_some _ _).symm.trans H; rw [hy158]; with_reducible exact H2_) | (have H2_ := (Option.bind_some _ _).symm.trans H; with_reducible exact H2_) | with_reducible exact H | (rw [hy158]; exact H) | exact H
                        have Ny158 := Aside0.mk hy158
                        clear hy158
                        have H' := Aside0.mk H
                        clear H
                        have p153 : 0 ≤ (x17_1 : Int) := of_decide_eq_true (by first | (with_reducible assumption) | assumption)
                        have q153 : x17_1 < (l0_0.length : Int) := of_decide_eq_true (by first | (with_reducible assumption) | assumption)
                        obtain ⟨ad153, e153, hx153_0, hx153_1, hx153_2⟩ := at_T48 HR0_0.out x17_1 p153 q153
                        cases e153
                        replace hx153_0 := (HB.out.cell (World.block_lt_of_cell? w _ hx153_0)).trans hx153_0
                        replace hx153_1 := (HB.out.cell (World.block_lt_of_cell? w _ hx153_1)).trans hx153_1
                        replace hx153_2 := (HB.out.cell (World.block_lt_of_cell? w _ hx153_2)).trans hx153_2
                        replace p153 := eq_true p153
                        replace q153 := eq_true q153
                        try go_wp2_with (first | ((with_reducible refine gate_dst (N := 7) rfl ?_); refine box_event ?hg (N := 7) ?hd (cs := #[.int .i64 0, .int .i64 0, .int .i64 0]) (t := 48) ?hr ?_; (case hd => rfl); (case hg => rfl); (case hr => first | (go_simp; done) | (go_simp; rfl)); intro gb154 hg w21 hbox hb; have n0_ := Aside0.mk (Kd.R_below (by (with_reducible repeat (first | apply Kd.R_alloc | apply Kd.R_drewN | apply Kd.R_drew)); exact HO_5.out) hb); have n1_ := Aside0.mk (blk_below (g := gb148) (o := .cells #[.slice (some ad153) l0_0.length c0_0] 24 (0, 0)) (by (with_reducible repeat (first | refine blk_drewN ?_ _ | refine blk_drew ?_ | refine blk_alloc ?_ _)); exact BK148.out) hb); have n2_ := Aside0.mk (below_step (by repeat (first | (with_reducible first | exact HB.out | apply below_alloc | apply pw_below_drewN | apply below_drew1 | refine below_set ?_ GE148.out) | exact HB.out)) hb); have n3_ := Aside0.mk (hbox); have n4_ := Aside0.mk ((by rw [hg]; exact (below_size (by repeat (first | (with_reducible first | exact HB.out | apply below_alloc | apply pw_below_drewN | apply below_drew1 | refine below_set ?_ GE148.out) | exact HB.out))) : w.heap.size ≤ gb154)); have n5_ := Aside0.mk ((by rw [hg]; exact (below_size (by repeat (first | (with_reducible first | exact HB.out | apply below_alloc | apply pw_below_drewN | apply below_drew1 | refine below_set ?_ GE148.out) | exact HB.out))) : w.heap.size ≤ gb154)); have n6_ := Aside0.mk ((by rw [hg]; exact Nat.ne_of_lt (blk_lt (g := gb148) (o := .cells #[.slice (some ad153) l0_0.length c0_0] 24 (0, 0)) (by (with_reducible repeat (first | refine blk_drewN ?_ _ | refine blk_drew ?_ | refine blk_alloc ?_ _)); exact BK148.out)) : gb148 ≠ gb154)); have n7_ := Aside0.mk ((by rw [hg]; exact Nat.ne_of_gt (blk_lt (g := gb148) (o := .cells #[.slice (some ad153) l0_0.length c0_0] 24 (0, 0)) (by (with_reducible repeat (first | refine blk_drewN ?_ _ | refine blk_drew ?_ | refine blk_alloc ?_ _)); exact BK148.out)) : gb154 ≠ gb148)); clear HO_5; clear BK148; clear HB; have HO_5 := n0_; have BK148 := n1_; have HB := n2_; have BK154 := n3_; have GW154 := n4_; have GE154 := n5_; have NB148_154 := n6_; have NB154_148 := n7_; clear n0_ n1_ n2_ n3_ n4_ n5_ n6_ n7_; clear hb hbox hg; have hnb22 := NB154_148.out; have hnc22 := NB148_154.out; have hcz23_0 : w21.cell? ⟨gb154, 0, none⟩ = some (.int .i64 0) := (blk_cell BK154.out 0).trans rfl; have hcz23_1 : w21.cell? ⟨gb154, 1, none⟩ = some (.int .i64 0) := (blk_cell BK154.out 1).trans rfl; have hcz23_2 : w21.cell? ⟨gb154, 2, none⟩ = some (.int .i64 0) := (blk_cell BK154.out 2).trans rfl; have hfz23_0 := blk_frozen BK154.out 0; have hfz23_1 := blk_frozen BK154.out 1; have hfz23_2 := blk_frozen BK154.out 2))
                        have n0_ : Aside0 (Kd.R Kd.string 9 (((w21.setCell ⟨gb154, 0, none⟩ (.int .i64 ((rd_T48 l0_0 x17_1).f0))).setCell ⟨gb154, 1, none⟩ (.int .i64 ((rd_T48 l0_0 x17_1).f1))).setCell ⟨gb154, 2, none⟩ (.int .i64 ((rd_T48 l0_0 x17_1).f2))) w.heap.size (fun _ => True) u5 x5_1) := ⟨by (with_reducible repeat (first | apply Kd.R_alloc | apply Kd.R_drewN | apply Kd.R_drew)); exact Kd.R_mono (Kd.R_far (p := ⟨gb154, 2, none⟩) (Kd.R_far (p := ⟨gb154, 1, none⟩) (Kd.R_far (p := ⟨gb154, 0, none⟩) (Kd.R_types HO_5.out BK154.out (by decide)) (fun _ hk => hk.2) (.int .i64 ((rd_T48 l0_0 x17_1).f0))) (fun _ hk => hk.2) (.int .i64 ((rd_T48 l0_0 x17_1).f1))) (fun _ hk => hk.2) (.int .i64 ((rd_T48 l0_0 x17_1).f2))) (fun _ hk => trivial)⟩
                        have n1_ : Aside0 ((((w21.setCell ⟨gb154, 0, none⟩ (.int .i64 ((rd_T48 l0_0 x17_1).f0))).setCell ⟨gb154, 1, none⟩ (.int .i64 ((rd_T48 l0_0 x17_1).f1))).setCell ⟨gb154, 2, none⟩ (.int .i64 ((rd_T48 l0_0 x17_1).f2))).heap[gb148]? = some (.cells #[.slice (some ad153) l0_0.length c0_0] 24 (0, 0))) := ⟨by (with_reducible repeat (first | refine blk_drewN ?_ _ | refine blk_drew ?_ | refine blk_alloc ?_ _)); refine blk_far ?_ NB148_154.out _; (with_reducible repeat (first | refine blk_drewN ?_ _ | refine blk_drew ?_ | refine blk_alloc ?_ _)); refine blk_far ?_ NB148_154.out _; (with_reducible repeat (first | refine blk_drewN ?_ _ | refine blk_drew ?_ | refine blk_alloc ?_ _)); refine blk_far ?_ NB148_154.out _; (with_reducible repeat (first | refine blk_drewN ?_ _ | refine blk_drew ?_ | refine blk_alloc ?_ _)); exact BK148.out⟩
                        have n2_ : Aside0 ((((w21.setCell ⟨gb154, 0, none⟩ (.int .i64 ((rd_T48 l0_0 x17_1).f0))).setCell ⟨gb154, 1, none⟩ (.int .i64 ((rd_T48 l0_0 x17_1).f1))).setCell ⟨gb154, 2, none⟩ (.int .i64 ((rd_T48 l0_0 x17_1).f2))).heap[gb154]? = some (.cells #[.int .i64 ((rd_T48 l0_0 x17_1).f0), .int .i64 ((rd_T48 l0_0 x17_1).f1), .int .i64 ((rd_T48 l0_0 x17_1).f2)] 48 (0, 0))) := ⟨by (with_reducible repeat (first | refine blk_drewN ?_ _ | refine blk_drew ?_ | refine blk_alloc ?_ _)); refine blk_put (cs := #[.int .i64 ((rd_T48 l0_0 x17_1).f0), .int .i64 ((rd_T48 l0_0 x17_1).f1), .int .i64 0]) ?_ 2 _ rfl; (with_reducible repeat (first | refine blk_drewN ?_ _ | refine blk_drew ?_ | refine blk_alloc ?_ _)); refine blk_put (cs := #[.int .i64 ((rd_T48 l0_0 x17_1).f0), .int .i64 0, .int .i64 0]) ?_ 1 _ rfl; (with_reducible repeat (first | refine blk_drewN ?_ _ | refine blk_drew ?_ | refine blk_alloc ?_ _)); refine blk_put (cs := #[.int .i64 0, .int .i64 0, .int .i64 0]) ?_ 0 _ rfl; (with_reducible repeat (first | refine blk_drewN ?_ _ | refine blk_drew ?_ | refine blk_alloc ?_ _)); exact BK154.out⟩
                        have n3_ : Aside0 (Below w.heap.size w (((w21.setCell ⟨gb154, 0, none⟩ (.int .i64 ((rd_T48 l0_0 x17_1).f0))).setCell ⟨gb154, 1, none⟩ (.int .i64 ((rd_T48 l0_0 x17_1).f1))).setCell ⟨gb154, 2, none⟩ (.int .i64 ((rd_T48 l0_0 x17_1).f2)))) := ⟨by repeat (first | (with_reducible first | exact HB.out | apply below_alloc | apply pw_below_drewN | apply below_drew1 | refine below_set ?_ GE148.out | refine below_set ?_ GE154.out) | exact HB.out)⟩
                        (try clear HO_5)
                        (try clear BK148)
                        (try clear BK154)
                        (try clear HB)
                        generalize (((w21.setCell ⟨gb154, 0, none⟩ (.int .i64 ((rd_T48 l0_0 x17_1).f0))).setCell ⟨gb154, 1, none⟩ (.int .i64 ((rd_T48 l0_0 x17_1).f1))).setCell ⟨gb154, 2, none⟩ (.int .i64 ((rd_T48 l0_0 x17_1).f2))) = w24 at n0_ n1_ n2_ n3_ ⊢
                        have HO_5 := n0_
                        have BK148 := n1_
                        have BK154 := n2_
                        have HB := n3_
                        clear n0_ n1_ n2_ n3_
                        have n0_ := Aside0.mk (Kd.R_drew HO_5.out)
                        have n1_ := Aside0.mk (blk_drew BK148.out)
                        have n2_ := Aside0.mk (blk_drew BK154.out)
                        have n3_ := Aside0.mk (below_drew1 HB.out)
                        clear HO_5
                        clear BK148
                        clear BK154
                        clear HB
                        have HO_5 := n0_
                        have BK148 := n1_
                        have BK154 := n2_
                        have HB := n3_
                        clear n0_ n1_ n2_ n3_
                        refine start_ (n := 17) (S := fun w' => w'.cell? ⟨gb154, 0, none⟩ = some (.int .i64 ((rd_T48 l0_0 x17_1).f0)) ∧ w'.cell? ⟨gb154, 1, none⟩ = some (.int .i64 ((rd_T48 l0_0 x17_1).f1)) ∧ w'.cell? ⟨gb154, 2, none⟩ = some (.int .i64 ((rd_T48 l0_0 x17_1).f2))) (ds := []) #[false, false, false, false, false, false, false, false, false, false, false, false, false, false, false, false, false] (by kernel_rfl) rfl rfl ⟨(blk_cell BK154.out 0).trans rfl, (blk_cell BK154.out 1).trans rfl, (blk_cell BK154.out 2).trans rfl⟩ (fun hHeld => ?_); refine with_tabW pack_Print.tab8 pack_Print.bits8 (fun HT_ HW_ => ?_)
                        generalize w24.drew = w25 at HO_5 BK148 BK154 HB hHeld ⊢
                        refine pure_ (i := 0) (N := some 21) (v := ?_) (a' := ?_) #[true, false, false, false, false, false, false, false, false, false, false, false, false, false, false, false, false] rfl rfl (any_of HT_.out (by kernel_rfl)) (fun _ _ _ h => h) (Or.inl ⟨by rfl, ?_⟩) ?_ ?_
                        rotate_left
                        · intro w'
                          go_simp
                          with_reducible rfl
                        rotate_left
                        · simp only [Act.put, List.setIfInBounds_toArray, List.set_cons_zero, List.set_cons_succ, i64_w, i32_w]
                          rfl
                        refine pure_ (i := 1) (N := some 22) (v := ?_) (a' := ?_) #[true, true, false, false, false, false, false, false, false, false, false, false, false, false, false, false, false] rfl rfl (any_of HT_.out (by kernel_rfl)) (fun _ _ _ h => h) (Or.inl ⟨by rfl, ?_⟩) ?_ ?_
                        rotate_left
                        · intro w'
                          go_simp
                          with_reducible rfl
                        rotate_left
                        · simp only [Act.put, List.setIfInBounds_toArray, List.set_cons_zero, List.set_cons_succ, i64_w, i32_w]
                          rfl
                        refine pure_ (i := 5) (N := some 26) (v := ?_) (a' := ?_) #[true, true, false, false, false, true, false, false, false, false, false, false, false, false, false, false, false] rfl rfl (any_of HT_.out (by kernel_rfl)) (fun _ _ _ h => h) (Or.inl ⟨by rfl, ?_⟩) ?_ ?_
                        rotate_left
                        · intro w'
                          go_simp
                          with_reducible rfl
                        rotate_left
                        · simp only [Act.put, List.setIfInBounds_toArray, List.set_cons_zero, List.set_cons_succ, i64_w, i32_w]
                          rfl
                        refine pure_ (i := 10) (N := some 31) (v := ?_) (a' := ?_) #[true, true, false, false, false, true, false, false, false, false, true, false, false, false, false, false, false] rfl rfl (any_of HT_.out (by kernel_rfl)) (fun _ _ _ h => h) (Or.inl ⟨by rfl, ?_⟩) ?_ ?_
                        rotate_left
                        · intro w'
                          go_simp
                          with_reducible rfl
                        rotate_left
                        · simp only [Act.put, List.setIfInBounds_toArray, List.set_cons_zero, List.set_cons_succ, i64_w, i32_w]
                          rfl
                        refine take_ (i := 2) (N := some 23) (v := ?_) (a' := ?_) #[true, true, true, false, false, true, false, false, false, false, true, false, false, false, false, false, false] rfl rfl (take_ofW HT_.out HW_.out (by kernel_rfl)) (fun _ _ _ h => h) (Or.inl ⟨by rfl, ?_⟩) hHeld ?_ ?_
                        rotate_left
                        · rintro w' ⟨s0, s1, s2⟩
                          go_simp
                          with_reducible rfl
                        rotate_left
                        · simp only [Act.put, List.setIfInBounds_toArray, List.set_cons_zero, List.set_cons_succ, i64_w, i32_w]
                          rfl
                        refine take_ (i := 6) (N := some 27) (v := ?_) (a' := ?_) #[true, true, true, false, false, true, true, false, false, false, true, false, false, false, false, false, false] rfl rfl (take_ofW HT_.out HW_.out (by kernel_rfl)) (fun _ _ _ h => h) (Or.inl ⟨by rfl, ?_⟩) hHeld ?_ ?_
                        rotate_left
                        · rintro w' ⟨s0, s1, s2⟩
                          go_simp
                          with_reducible rfl
                        rotate_left
                        · simp only [Act.put, List.setIfInBounds_toArray, List.set_cons_zero, List.set_cons_succ, i64_w, i32_w]
                          rfl
                        refine take_ (i := 11) (N := some 32) (v := ?_) (a' := ?_) #[true, true, true, false, false, true, true, false, false, false, true, true, false, false, false, false, false] rfl rfl (take_ofW HT_.out HW_.out (by kernel_rfl)) (fun _ _ _ h => h) (Or.inl ⟨by rfl, ?_⟩) hHeld ?_ ?_
                        rotate_left
                        · rintro w' ⟨s0, s1, s2⟩
                          go_simp
                          with_reducible rfl
                        rotate_left
                        · simp only [Act.put, List.setIfInBounds_toArray, List.set_cons_zero, List.set_cons_succ, i64_w, i32_w]
                          rfl
                        refine one_ (i := 3) (N := some 24) #[true, true, true, true, false, true, true, false, false, false, true, true, false, false, false, false, false] rfl rfl (one_of HT_.out (by kernel_rfl)) (by decide) (fun K hK => ?_)
                        refine goes_ Tryd.func86 (by kernel_rfl) rfl #[.int .i64 ((rd_T48 l0_0 x17_1).f0)] (by rfl) rfl rfl (by (try simp only [List.map_toArray, List.map_cons, List.map_nil]); first | done | rfl | (simp only [List.length_drop, List.length_take]; rfl)) ?_
                        with_reducible refine (strconv_Itoa.calls ((rd_T48 l0_0 x17_1).f0) t155 _ ?hgl_ A13.out).mono ?_
                        case hgl_ => exact HGl.out.below (by repeat (first | (with_reducible first | exact HB.out | apply below_alloc | apply pw_below_drewN | apply below_drew1 | refine below_set ?_ GE148.out | refine below_set ?_ GE154.out) | exact HB.out)) (Nat.le_refl _)
                        rintro e w26 ⟨rfl, hb⟩
                        refine ⟨_, rfl, ?_⟩
                        have n0_ := Aside0.mk (Kd.R_below (by (with_reducible repeat (first | apply Kd.R_alloc | apply Kd.R_drewN | apply Kd.R_drew)); exact HO_5.out) hb)
                        have n1_ := Aside0.mk (blk_below (g := gb148) (o := .cells #[.slice (some ad153) l0_0.length c0_0] 24 (0, 0)) (by (with_reducible repeat (first | refine blk_drewN ?_ _ | refine blk_drew ?_ | refine blk_alloc ?_ _)); exact BK148.out) hb)
                        have n2_ := Aside0.mk (blk_below (g := gb154) (o := .cells #[.int .i64 ((rd_T48 l0_0 x17_1).f0), .int .i64 ((rd_T48 l0_0 x17_1).f1), .int .i64 ((rd_T48 l0_0 x17_1).f2)] 48 (0, 0)) (by (with_reducible repeat (first | refine blk_drewN ?_ _ | refine blk_drew ?_ | refine blk_alloc ?_ _)); exact BK154.out) hb)
                        have n3_ := Aside0.mk (below_step (by repeat (first | (with_reducible first | exact HB.out | apply below_alloc | apply pw_below_drewN | apply below_drew1 | refine below_set ?_ GE148.out | refine below_set ?_ GE154.out) | exact HB.out)) hb)
                        clear HO_5
                        clear BK148
                        clear BK154
                        clear HB
                        have HO_5 := n0_
                        have BK148 := n1_
                        have BK154 := n2_
                        have HB := n3_
                        clear n0_ n1_ n2_ n3_
                        (try clear hb)
                        (try clear hb2)
                        (try clear hk)
                        (try clear hi)
                        refine hK.out _ _ ⟨(blk_cell BK154.out 0).trans rfl, (blk_cell BK154.out 1).trans rfl, (blk_cell BK154.out 2).trans rfl⟩ (fun hHeld => ?_)
                        clear hK K
                        refine norm_ (a' := ?_) ?_ ?_
                        rotate_left
                        · show Act.put _ (some 24) _ = _
                          simp only [Act.put, List.setIfInBounds_toArray, List.set_cons_zero, List.set_cons_succ, i64_w, i32_w]
                          rfl
                        refine pure_ (i := 4) (N := some 25) (v := ?_) (a' := ?_) #[true, true, true, true, true, true, true, false, false, false, true, true, false, false, false, false, false] rfl rfl (any_of HT_.out (by kernel_rfl)) (fun _ _ _ h => h) (Or.inl ⟨by rfl, ?_⟩) ?_ ?_
                        rotate_left
                        · intro w'
                          go_simp
                          with_reducible rfl
                        rotate_left
                        · simp only [Act.put, List.setIfInBounds_toArray, List.set_cons_zero, List.set_cons_succ, i64_w, i32_w]
                          rfl
                        refine one_ (i := 7) (N := some 28) #[true, true, true, true, true, true, true, true, false, false, true, true, false, false, false, false, false] rfl rfl (one_of HT_.out (by kernel_rfl)) (by decide) (fun K hK => ?_)
                        refine goes_ Tryd.func86 (by kernel_rfl) rfl #[.int .i64 ((rd_T48 l0_0 x17_1).f1)] (by rfl) rfl rfl (by (try simp only [List.map_toArray, List.map_cons, List.map_nil]); first | done | rfl | (simp only [List.length_drop, List.length_take]; rfl)) ?_
                        with_reducible refine (strconv_Itoa.calls ((rd_T48 l0_0 x17_1).f1) t156 _ ?hgl_ A15.out).mono ?_
                        case hgl_ => exact HGl.out.below (by repeat (first | (with_reducible first | exact HB.out | apply below_alloc | apply pw_below_drewN | apply below_drew1 | refine below_set ?_ GE148.out | refine below_set ?_ GE154.out) | exact HB.out)) (Nat.le_refl _)
                        rintro e w27 ⟨rfl, hb⟩
                        refine ⟨_, rfl, ?_⟩
                        have n0_ := Aside0.mk (Kd.R_below (by (with_reducible repeat (first | apply Kd.R_alloc | apply Kd.R_drewN | apply Kd.R_drew)); exact HO_5.out) hb)
                        have n1_ := Aside0.mk (blk_below (g := gb148) (o := .cells #[.slice (some ad153) l0_0.length c0_0] 24 (0, 0)) (by (with_reducible repeat (first | refine blk_drewN ?_ _ | refine blk_drew ?_ | refine blk_alloc ?_ _)); exact BK148.out) hb)
                        have n2_ := Aside0.mk (blk_below (g := gb154) (o := .cells #[.int .i64 ((rd_T48 l0_0 x17_1).f0), .int .i64 ((rd_T48 l0_0 x17_1).f1), .int .i64 ((rd_T48 l0_0 x17_1).f2)] 48 (0, 0)) (by (with_reducible repeat (first | refine blk_drewN ?_ _ | refine blk_drew ?_ | refine blk_alloc ?_ _)); exact BK154.out) hb)
                        have n3_ := Aside0.mk (below_step (by repeat (first | (with_reducible first | exact HB.out | apply below_alloc | apply pw_below_drewN | apply below_drew1 | refine below_set ?_ GE148.out | refine below_set ?_ GE154.out) | exact HB.out)) hb)
                        clear HO_5
                        clear BK148
                        clear BK154
                        clear HB
                        have HO_5 := n0_
                        have BK148 := n1_
                        have BK154 := n2_
                        have HB := n3_
                        clear n0_ n1_ n2_ n3_
                        (try clear hb)
                        (try clear hb2)
                        (try clear hk)
                        (try clear hi)
                        refine hK.out _ _ ⟨(blk_cell BK154.out 0).trans rfl, (blk_cell BK154.out 1).trans rfl, (blk_cell BK154.out 2).trans rfl⟩ (fun hHeld => ?_)
                        clear hK K
                        refine norm_ (a' := ?_) ?_ ?_
                        rotate_left
                        · show Act.put _ (some 28) _ = _
                          simp only [Act.put, List.setIfInBounds_toArray, List.set_cons_zero, List.set_cons_succ, i64_w, i32_w]
                          rfl
                        refine pure_ (i := 8) (N := some 29) (v := ?_) (a' := ?_) #[true, true, true, true, true, true, true, true, true, false, true, true, false, false, false, false, false] rfl rfl (any_of HT_.out (by kernel_rfl)) (fun _ _ _ h => h) (Or.inl ⟨by rfl, ?_⟩) ?_ ?_
                        rotate_left
                        · intro w'
                          go_simp
                          with_reducible rfl
                        rotate_left
                        · simp only [Act.put, List.setIfInBounds_toArray, List.set_cons_zero, List.set_cons_succ, i64_w, i32_w]
                          rfl
                        refine pure_ (i := 9) (N := some 30) (v := ?_) (a' := ?_) #[true, true, true, true, true, true, true, true, true, true, true, true, false, false, false, false, false] rfl rfl (any_of HT_.out (by kernel_rfl)) (fun _ _ _ h => h) (Or.inl ⟨by rfl, ?_⟩) ?_ ?_
                        rotate_left
                        · intro w'
                          go_simp
                          with_reducible rfl
                        rotate_left
                        · simp only [Act.put, List.setIfInBounds_toArray, List.set_cons_zero, List.set_cons_succ, i64_w, i32_w]
                          rfl
                        refine one_ (i := 12) (N := some 33) #[true, true, true, true, true, true, true, true, true, true, true, true, true, false, false, false, false] rfl rfl (one_of HT_.out (by kernel_rfl)) (by decide) (fun K hK => ?_)
                        refine goes_ Tryd.func86 (by kernel_rfl) rfl #[.int .i64 ((rd_T48 l0_0 x17_1).f2)] (by rfl) rfl rfl (by (try simp only [List.map_toArray, List.map_cons, List.map_nil]); first | done | rfl | (simp only [List.length_drop, List.length_take]; rfl)) ?_
                        with_reducible refine (strconv_Itoa.calls ((rd_T48 l0_0 x17_1).f2) t157 _ ?hgl_ A18.out).mono ?_
                        case hgl_ => exact HGl.out.below (by repeat (first | (with_reducible first | exact HB.out | apply below_alloc | apply pw_below_drewN | apply below_drew1 | refine below_set ?_ GE148.out | refine below_set ?_ GE154.out) | exact HB.out)) (Nat.le_refl _)
                        rintro e w28 ⟨rfl, hb⟩
                        refine ⟨_, rfl, ?_⟩
                        have n0_ := Aside0.mk (Kd.R_below (by (with_reducible repeat (first | apply Kd.R_alloc | apply Kd.R_drewN | apply Kd.R_drew)); exact HO_5.out) hb)
                        have n1_ := Aside0.mk (blk_below (g := gb148) (o := .cells #[.slice (some ad153) l0_0.length c0_0] 24 (0, 0)) (by (with_reducible repeat (first | refine blk_drewN ?_ _ | refine blk_drew ?_ | refine blk_alloc ?_ _)); exact BK148.out) hb)
                        have n2_ := Aside0.mk (blk_below (g := gb154) (o := .cells #[.int .i64 ((rd_T48 l0_0 x17_1).f0), .int .i64 ((rd_T48 l0_0 x17_1).f1), .int .i64 ((rd_T48 l0_0 x17_1).f2)] 48 (0, 0)) (by (with_reducible repeat (first | refine blk_drewN ?_ _ | refine blk_drew ?_ | refine blk_alloc ?_ _)); exact BK154.out) hb)
                        have n3_ := Aside0.mk (below_step (by repeat (first | (with_reducible first | exact HB.out | apply below_alloc | apply pw_below_drewN | apply below_drew1 | refine below_set ?_ GE148.out | refine below_set ?_ GE154.out) | exact HB.out)) hb)
                        clear HO_5
                        clear BK148
                        clear BK154
                        clear HB
                        have HO_5 := n0_
                        have BK148 := n1_
                        have BK154 := n2_
                        have HB := n3_
                        clear n0_ n1_ n2_ n3_
                        (try clear hb)
                        (try clear hb2)
                        (try clear hk)
                        (try clear hi)
                        refine hK.out _ _ ⟨(blk_cell BK154.out 0).trans rfl, (blk_cell BK154.out 1).trans rfl, (blk_cell BK154.out 2).trans rfl⟩ (fun hHeld => ?_)
                        clear hK K
                        refine norm_ (a' := ?_) ?_ ?_
                        rotate_left
                        · show Act.put _ (some 33) _ = _
                          simp only [Act.put, List.setIfInBounds_toArray, List.set_cons_zero, List.set_cons_succ, i64_w, i32_w]
                          rfl
                        refine pure_ (i := 13) (N := some 34) (v := ?_) (a' := ?_) #[true, true, true, true, true, true, true, true, true, true, true, true, true, true, false, false, false] rfl rfl (any_of HT_.out (by kernel_rfl)) (fun _ _ _ h => h) (Or.inl ⟨by rfl, ?_⟩) ?_ ?_
                        rotate_left
                        · intro w'
                          go_simp
                          with_reducible rfl
                        rotate_left
                        · simp only [Act.put, List.setIfInBounds_toArray, List.set_cons_zero, List.set_cons_succ, i64_w, i32_w]
                          rfl
                        refine one_ (i := 14) (N := some 35) #[true, true, true, true, true, true, true, true, true, true, true, true, true, true, true, false, false] rfl rfl (one_of HT_.out (by kernel_rfl)) (by decide) (fun K hK => ?_)
                        refine value_ (w1 := ?_) (v := ?_) (by rfl) rfl ?_ ?_
                        rotate_left 2
                        · go_simp
                          constructor
                          · rfl
                          · rfl
                        refine hK.out _ _ ⟨(blk_cell (blk_alloc BK154.out _) 0).trans rfl, (blk_cell (blk_alloc BK154.out _) 1).trans rfl, (blk_cell (blk_alloc BK154.out _) 2).trans rfl⟩ (fun hHeld => ?_)
                        clear hK K
                        refine norm_ (a' := ?_) ?_ ?_
                        rotate_left
                        · show Act.put _ (some 35) _ = _
                          simp only [Act.put, List.setIfInBounds_toArray, List.set_cons_zero, List.set_cons_succ, i64_w, i32_w]
                          rfl
                        refine one_ (i := 15) (N := some 36) #[true, true, true, true, true, true, true, true, true, true, true, true, true, true, true, true, false] rfl rfl (one_of HT_.out (by kernel_rfl)) (by decide) (fun K hK => ?_)
                        refine Kd.R_append_step Kd.string (w0 := w) w.heap.size (by rfl) (.tmp 21) (.tmp 35) 97 9 (.string ⟨#[]⟩) 16 rfl Tryd.underlying97 info9 rfl (by decide) (by omega) u5 x5_1 ((((t155 ++ (⟨#[47]⟩ : ByteArray)) ++ t156) ++ (⟨#[47]⟩ : ByteArray)) ++ t157) [.string ((((t155 ++ (⟨#[47]⟩ : ByteArray)) ++ t156) ++ (⟨#[47]⟩ : ByteArray)) ++ t157)] (fun _ => True) (fun _ => False) rfl rfl ?aP (fun _ hk => hk.elim) ?aF ?aO ?aB ?aS ?aL ?_
                        (case aP => exact rfl)
                        (case aB => exact (by repeat (first | (with_reducible first | exact HB.out | apply below_alloc | apply pw_below_drewN | apply below_drew1 | refine below_set ?_ GE148.out | refine below_set ?_ GE154.out) | exact HB.out)))
                        (case aF => exact (fun _ _ => trivial))
                        (case aO => exact (by (with_reducible repeat (first | apply Kd.R_alloc | apply Kd.R_drewN | apply Kd.R_drew)); exact HO_5.out))
                        (case aS => exact (below_size (by repeat (first | (with_reducible first | exact HB.out | apply below_alloc | apply pw_below_drewN | apply below_drew1 | refine below_set ?_ GE148.out | refine below_set ?_ GE154.out) | exact HB.out))))
                        (case aL => have := LMc20.out; omega)
                        intro v159 w29 ho hb hg hat
                        rw [← Ny158.out] at ho
                        have n0_ := Aside0.mk (blk_grown (g := gb148) (o := .cells #[.slice (some ad153) l0_0.length c0_0] 24 (0, 0)) (by (with_reducible repeat (first | refine blk_drewN ?_ _ | refine blk_drew ?_ | refine blk_alloc ?_ _)); exact BK148.out) hg (Kd.R_ne HO_5.out BK148.out (by decide)))
                        have n1_ := Aside0.mk (blk_grown (g := gb154) (o := .cells #[.int .i64 ((rd_T48 l0_0 x17_1).f0), .int .i64 ((rd_T48 l0_0 x17_1).f1), .int .i64 ((rd_T48 l0_0 x17_1).f2)] 48 (0, 0)) (by (with_reducible repeat (first | refine blk_drewN ?_ _ | refine blk_drew ?_ | refine blk_alloc ?_ _)); exact BK154.out) hg (Kd.R_ne HO_5.out BK154.out (by decide)))
                        have n2_ := Aside0.mk (hb)
                        have n3_ := Aside0.mk (ho)
                        clear BK148
                        clear BK154
                        clear HB
                        clear HO_5
                        have BK148 := n0_
                        have BK154 := n1_
                        have HB := n2_
                        have HO160 := n3_
                        clear n0_ n1_ n2_ n3_
                        clear ho hb hg hat
                        refine hK.out _ _ ⟨(blk_cell BK154.out 0).trans rfl, (blk_cell BK154.out 1).trans rfl, (blk_cell BK154.out 2).trans rfl⟩ (fun hHeld => ?_)
                        clear hK K
                        refine norm_ (a' := ?_) ?_ ?_
                        rotate_left
                        · show Act.put _ (some 36) _ = _
                          simp only [Act.put, List.setIfInBounds_toArray, List.set_cons_zero, List.set_cons_succ, i64_w, i32_w]
                          rfl
                        refine pure_ (i := 16) (N := some 5) (v := ?_) (a' := ?_) #[true, true, true, true, true, true, true, true, true, true, true, true, true, true, true, true, true] rfl rfl (any_of HT_.out (by kernel_rfl)) (fun _ _ _ h => h) (Or.inl ⟨by rfl, ?_⟩) ?_ ?_
                        rotate_left
                        · intro w'
                          go_simp
                          with_reducible rfl
                        rotate_left
                        · simp only [Act.put, List.setIfInBounds_toArray, List.set_cons_zero, List.set_cons_succ, i64_w, i32_w]
                          rfl
                        refine done_ (done_of HT_.out (by kernel_rfl)) ?_
                        try go_wp2
                        go_roundg k1
                        case measure => have := HK1.out; omega
                        case rel => exact ⟨(y158), (wrap64 (x17_1 + 1)), (by first | rfl | (simp; done) | (simp [*]; done)), H', ⟨by have := HK1.out; omega⟩, ⟨by (with_reducible repeat (first | apply Kd.R_alloc | apply Kd.R_drewN | apply Kd.R_drew)); exact HO160.out⟩, ⟨by (with_reducible repeat (first | refine blk_drewN ?_ _ | refine blk_drew ?_ | refine blk_alloc ?_ _)); exact BK148.out⟩, ⟨by repeat (first | (with_reducible first | exact HB.out | apply below_alloc | apply pw_below_drewN | apply below_drew1 | refine below_set ?_ GE148.out | refine below_set ?_ GE154.out) | exact HB.out)⟩⟩
                      · rw [if_neg c20] at H
                        exact absurd H (by simp)
                    · rw [if_neg c19] at H
                      exact absurd H (by simp)
                  · rw [if_neg c17] at H
                    exact absurd H (by simp)
                · rw [if_neg c16] at H
                  exact absurd H (by simp)
              · rw [if_neg c14] at H
                exact absurd H (by simp)
            · rw [if_neg c12] at H
              exact absurd H (by simp)
          · rw [if_neg c11] at H
            exact absurd H (by simp)
        · rw [if_neg c10] at H
          have c10b0 : decide (x17_1 < (l0_0.length : Int)) = false := decide_eq_false c10
          clear c10
          replace H := Option.bind_eq_some_iff.mp H
          obtain ⟨t161, A300, H⟩ := H
          replace H : (some (t161, 0)) = some (r1, r2) := H
          have A30 := Aside0.mk A300
          clear A300
          simp only [Option.some.injEq, Prod.mk.injEq] at H
          obtain ⟨rfl, rfl⟩ := H
          obtain ⟨Ao31, co31, eo31⟩ := Kd.R_slice HO_5.out
          subst eo31
          go_wp2_with (first | ((with_reducible refine gate_callee (f := 87) rfl ?_); refine goesL_ (some 39) rfl rfl Tryd.func87 (by kernel_rfl) rfl #[.slice Ao31 x5_1.length co31, .string (⟨#[32]⟩ : ByteArray)] rfl (by (try simp only [List.map_toArray, List.map_cons, List.map_nil]); first | done | rfl | (simp only [List.length_drop, List.length_take]; rfl)) ?_; (with_reducible refine (strings_Join.calls _ _ x5_1 (⟨#[32]⟩ : ByteArray) t161 _ ?side1 ?side2 A30.out).mono ?_); (case side1 => repeat (first | exact (Kd.R_reads' HO_5.out).2.2 | (with_reducible refine Kd.C_alloc ?_ _) | (with_reducible refine Kd.C_drewN ?_ _) | (with_reducible refine Kd.C_drew ?_))); (case side2 => exact (Kd.R_reads' HO_5.out).2.1); rintro e w32 ⟨rfl, hb⟩; refine ⟨_, rfl, ?_⟩; have n0_ := Aside0.mk (Kd.R_below (by (with_reducible repeat (first | apply Kd.R_alloc | apply Kd.R_drewN | apply Kd.R_drew)); exact HO_5.out) hb); have n1_ := Aside0.mk (blk_below (g := gb148) (o := .cells #[.slice A0_0 l0_0.length c0_0] 24 (0, 0)) (by (with_reducible repeat (first | refine blk_drewN ?_ _ | refine blk_drew ?_ | refine blk_alloc ?_ _)); exact BK148.out) hb); have n2_ := Aside0.mk (below_step (by repeat (first | (with_reducible first | exact HB.out | apply below_alloc | apply pw_below_drewN | apply below_drew1 | refine below_set ?_ GE148.out) | exact HB.out)) hb); clear HO_5; clear BK148; clear HB; have HO_5 := n0_; have BK148 := n1_; have HB := n2_; clear n0_ n1_ n2_; (try clear hb); (try clear hb2); (try clear hk); (try clear hi)))
          go_ret2
          exact ⟨by first | rfl | (simp [errW_none, errW_some] <;> rfl) | (simp [*, errW_none, errW_some] <;> rfl), by repeat (first | (with_reducible first | exact HB.out | apply below_alloc | apply pw_below_drewN | apply below_drew1 | refine below_set ?_ GE148.out) | exact HB.out)⟩
  · rw [if_neg c3] at H
    have c3b0 : (t149 == 0) = false := beq_eq_false_iff_ne.mpr c3
    have c3b1 : (t149 != 0) = true := bne_iff_ne.mpr c3
    simp only [Option.some.injEq, Prod.mk.injEq] at H
    obtain ⟨rfl, rfl⟩ := H
    go_enter Tryd.func58, Tryd.ntmps58
    go_wp2_with (first | ((with_reducible refine gate_dst (N := 1) rfl ?_); refine box_event ?hg (N := 1) ?hd (cs := #[.slice A0_0 l0_0.length c0_0]) (t := 24) ?hr ?_; (case hd => rfl); (case hg => rfl); (case hr => first | (go_simp; done) | (go_simp; rfl)); intro gb148 hg w33 hbox hb; have n0_ := Aside0.mk (below_step (by repeat (first | (with_reducible first | exact HB.out | apply below_alloc | apply pw_below_drewN | apply below_drew1) | exact HB.out)) hb); have n1_ := Aside0.mk (hbox); have n2_ := Aside0.mk ((by rw [hg]; exact (below_size (by repeat (first | (with_reducible first | exact HB.out | apply below_alloc | apply pw_below_drewN | apply below_drew1) | exact HB.out))) : w.heap.size ≤ gb148)); have n3_ := Aside0.mk ((by rw [hg]; exact (below_size (by repeat (first | (with_reducible first | exact HB.out | apply below_alloc | apply pw_below_drewN | apply below_drew1) | exact HB.out))) : w.heap.size ≤ gb148)); clear HB; have HB := n0_; have BK148 := n1_; have GW148 := n2_; have GE148 := n3_; clear n0_ n1_ n2_ n3_; clear hb hbox hg; have hcz34_0 : w33.cell? ⟨gb148, 0, none⟩ = some (.slice A0_0 l0_0.length c0_0) := (blk_cell BK148.out 0).trans rfl; have hfz34_0 := blk_frozen BK148.out 0) | ((with_reducible refine gate_callee (f := 25) rfl ?_); refine goesL_ (some 9) rfl rfl Tryd.func25 (by kernel_rfl) rfl #[.agg #[.slice A0_0 l0_0.length c0_0]] rfl (by (try simp only [List.map_toArray, List.map_cons, List.map_nil]); first | done | rfl | (simp only [List.length_drop, List.length_take]; rfl)) ?_; (with_reducible refine (pack_Check.calls k _ _ l0_0 t149 _ ?side1 ?side2 A2.out).mono ?_); (case side1 => repeat (first | exact (Kd.C_below HR0_0.out HB.out) | (with_reducible refine Kd.C_alloc ?_ _) | (with_reducible refine Kd.C_drewN ?_ _) | (with_reducible refine Kd.C_drew ?_))); (case side2 => exact HC0_0.out); rintro e w35 ⟨rfl, hb⟩; refine ⟨_, rfl, ?_⟩; have n0_ := Aside0.mk (blk_below (g := gb148) (o := .cells #[.slice A0_0 l0_0.length c0_0] 24 (0, 0)) (by (with_reducible repeat (first | refine blk_drewN ?_ _ | refine blk_drew ?_ | refine blk_alloc ?_ _)); exact BK148.out) hb); have n1_ := Aside0.mk (below_step (by repeat (first | (with_reducible first | exact HB.out | apply below_alloc | apply pw_below_drewN | apply below_drew1 | refine below_set ?_ GE148.out) | exact HB.out)) hb); clear BK148; clear HB; have BK148 := n0_; have HB := n1_; clear n0_ n1_; (try clear hb); (try clear hb2); (try clear hk); (try clear hi)))
    go_ret2
    exact ⟨by first | rfl | (simp [errW_none, errW_some] <;> rfl) | (simp [*, errW_none, errW_some] <;> rfl), by repeat (first | (with_reducible first | exact HB.out | apply below_alloc | apply pw_below_drewN | apply below_drew1 | refine below_set ?_ GE148.out) | exact HB.out)⟩
end Go.Proofs.YtpldcikmlpegpaaDoor.PB
end
section
namespace Go.Proofs.YtpldcikmlpegpaaDoor.Col
open Go.RowKit Go.Proofs.YtpldcikmlpegpaaDoor.PB Go.Proofs.YtpldcikmlpegpaaDoorW.PrintWords Go.Proofs.YtpldcikmlpegpaaDoorW.PrintLast Go.Proofs.YtpldcikmlpegpaaDoorW.PrintMore
def Row (w : World) (g cap : Nat) (xs : List S48) : Prop :=
  ∃ cur : List Value, w.heap[g]? = some (.cells cur.toArray 48 (0, 0)) ∧ xs.length ≤ cap ∧ cap ≤ maxLen ∧ cur.length = cap * 3 ∧ cur.take (xs.length * 3) = xs.flatMap lcells
theorem reps_flat : ∀ (xs : List S48) (cs : List Value) (W : World) (base : Nat) (ok : Nat → Prop), Reps (k48.M W base ok) 3 xs cs → cs = xs.flatMap lcells := by
  intro xs
  induction xs with
  | nil => intro cs W base ok h; exact List.eq_nil_of_length_eq_zero (by simpa using h.1)
  | cons x xs ih =>
    intro cs W base ok h
    have h0 := k48_openM (h.2 0 x rfl)
    simp only [Nat.zero_mul, List.drop_zero] at h0
    have h1 := ih (cs.drop 3) W base ok ⟨by rw [List.length_drop, h.1, List.length_cons]; omega, fun j p hp => by
      have := h.2 (j + 1) p (by simpa using hp)
      rw [List.drop_drop]
      rwa [show 3 + j * 3 = (j + 1) * 3 by omega]⟩
    rw [List.flatMap_cons, ← h1]
    have e : cs = cs.take 3 ++ cs.drop 3 := (List.take_append_drop 3 cs).symm
    rw [h0] at e
    exact e
theorem flat_reps (xs : List S48) (W : World) (base : Nat) (ok : Nat → Prop) : Reps (k48.M W base ok) 3 xs (xs.flatMap lcells) := by
  refine ⟨flat_len xs, fun j p hp => ?_⟩
  have hj : j < xs.length := (List.getElem?_eq_some_iff.1 hp).1
  have e : ((xs.flatMap lcells).drop (j * 3)).take 3 = lcells p := by
    apply List.ext_getElem?
    intro i
    by_cases hi : i < 3
    · rw [List.getElem?_take_of_lt hi, List.getElem?_drop, flat_get xs j i hj hi, List.getD_eq_getElem?_getD, hp]
      rfl
    · rw [List.getElem?_eq_none (by simp; omega), List.getElem?_eq_none (by simp [lcells]; omega)]
  rw [e]
  exact k48_mkM W base ok p
theorem Row.of_R {w : World} {base : Nat} {v : Value} {xs : List S48} {ok : Nat → Prop} (h : Kd.R k48 48 w base ok v xs) :
    (v = .slice none 0 0 ∧ xs = []) ∨ ∃ g cap, v = .slice (some ⟨g, 0, none⟩) xs.length cap ∧ base ≤ g ∧ Row w g cap xs := by
  obtain ⟨_, inner, ⟨hl, hh⟩, hr⟩ := h
  rcases hh with ⟨rfl, h0⟩ | ⟨g, cap, cur, rfl, hg, hb, hn, hm, hs, ht⟩
  · exact .inl ⟨rfl, List.eq_nil_of_length_eq_zero h0⟩
  · refine .inr ⟨g, cap, rfl, hg, cur.toList, by simpa using hb, hn, hm, by rw [Array.length_toList]; exact hs, ?_⟩
    rw [show xs.length * 3 = xs.length * k48.sz from rfl, ht]
    exact reps_flat xs inner _ _ _ hr
theorem Row.to_R {w : World} {g cap : Nat} {xs : List S48} (h : Row w g cap xs) {base : Nat} (hb : base ≤ g) : Kd.R k48 48 w base (fun _ => True) (.slice (some ⟨g, 0, none⟩) xs.length cap) xs := by
  obtain ⟨cur, h1, h2, h3, h4, h5⟩ := h
  exact ⟨fun _ _ => trivial, xs.flatMap lcells, ⟨flat_len xs, .inr ⟨g, cap, cur.toArray, rfl, hb, h1, h2, h3, by rw [List.size_toArray]; exact h4, h5⟩⟩, flat_reps xs _ _ _⟩
section
variable {w : World} {g cap : Nat} {xs : List S48}
theorem Row.layer (h : Row w g cap xs) (i j : Nat) (hi : i < xs.length) (hj : j < 3) : w.cell? ⟨g, i * 3 + j, none⟩ = (lcells (xs.getD i z48))[j]? := by
  obtain ⟨cur, h1, h2, h3, h4, h5⟩ := h
  rw [blk_cell h1, List.getElem?_toArray, ← flat_get xs i j hi hj, ← h5, List.getElem?_take_of_lt (by omega)]
theorem Row.ice (h : Row w g cap xs) (i : Nat) (hi : i < xs.length) : w.cell? ⟨g, i * 3, none⟩ = some (.int .i64 (xs.getD i z48).f0) := h.layer i 0 hi (by omega)
theorem Row.wet (h : Row w g cap xs) (i : Nat) (hi : i < xs.length) : w.cell? ⟨g, i * 3 + 1, none⟩ = some (.int .i64 (xs.getD i z48).f1) := h.layer i 1 hi (by omega)
theorem Row.cold (h : Row w g cap xs) (i : Nat) (hi : i < xs.length) : w.cell? ⟨g, i * 3 + 2, none⟩ = some (.int .i64 (xs.getD i z48).f2) := h.layer i 2 hi (by omega)
theorem Row.free (h : Row w g cap xs) (k : Nat) : w.frozen? ⟨g, k, none⟩ = false := by obtain ⟨cur, h1, _⟩ := h; exact blk_frozen h1 k
theorem Row.lt (h : Row w g cap xs) : g < w.heap.size := by obtain ⟨cur, h1, _⟩ := h; exact blk_lt h1
theorem Row.le (h : Row w g cap xs) : xs.length ≤ cap := by obtain ⟨cur, _, h2, _⟩ := h; exact h2
theorem Row.max (h : Row w g cap xs) : cap ≤ maxLen := by obtain ⟨cur, _, _, h3, _⟩ := h; exact h3
theorem Row.some_ (h : Row w g cap xs) (k : Nat) (hk : k < cap * 3) : (w.cell? ⟨g, k, none⟩).isSome = true := by
  obtain ⟨cur, h1, h2, h3, h4, h5⟩ := h
  rw [blk_cell h1, List.getElem?_toArray, List.getElem?_eq_getElem (by omega)]
  rfl
theorem Row.drew (h : Row w g cap xs) : Row w.drew g cap xs := h
theorem Row.drewN (h : Row w g cap xs) (n : Nat) : Row (w.drewN n) g cap xs := h
theorem Row.below {w' : World} (h : Row w g cap xs) (hb : Below w.heap.size w w') : Row w' g cap xs := by
  obtain ⟨cur, h1, h2⟩ := h
  exact ⟨cur, blk_below h1 hb, h2⟩
theorem KeepG.setCells (g : Nat) : ∀ (vs : List Value) (o : Nat) (w : World), KeepG g w (w.setCells g o vs)
  | [], _, _ => KeepG.refl _ _
  | v :: r, o, w => (KeepG.set g w o v).trans (KeepG.setCells g r (o + 1) _)
theorem heap_setCells (g : Nat) (t : TypeId) : ∀ (vs : List Value) (o : Nat) (w : World) (cur : List Value), w.heap[g]? = some (.cells cur.toArray t (0, 0)) → o + vs.length ≤ cur.length → (w.setCells g o vs).heap[g]? = some (.cells (splice cur o vs).toArray t (0, 0))
  | [], o, w, cur, h, _ => by simpa [splice, World.setCells] using h
  | v :: r, o, w, cur, h, hl => by
    have h1 := blk_set h o v
    rw [List.setIfInBounds_toArray] at h1
    have ih := heap_setCells g t r (o + 1) (w.setCell ⟨g, o, none⟩ v) (cur.set o v) h1 (by simp at hl ⊢; omega)
    rw [World.setCells, ih]
    have e := list_seg_step cur o v r (by simp at hl; omega)
    unfold splice
    simp only [List.length_cons]
    simp only [List.append_assoc] at e
    rw [e]
theorem Row.lay (h : Row w g cap xs) (o : Nat) (vs : List Value) (ys : List S48) (ho : o + vs.length ≤ cap * 3) (hl : ys.length ≤ cap)
    (e : ∀ cur : List Value, cur.length = cap * 3 → cur.take (xs.length * 3) = xs.flatMap lcells → (splice cur o vs).take (ys.length * 3) = ys.flatMap lcells) : Row (w.setCells g o vs) g cap ys := by
  obtain ⟨cur, h1, h2, h3, h4, h5⟩ := h
  exact ⟨splice cur o vs, heap_setCells g _ vs o w cur h1 (by omega), hl, h3, by rw [length_splice _ _ _ (by omega)]; exact h4, e cur h4 h5⟩
theorem Row.put (h : Row w g cap xs) (i : Nat) (hi : i < xs.length) (x y z : Int) :
    Row (((w.setCell ⟨g, i * 3, none⟩ (.int .i64 x)).setCell ⟨g, i * 3 + 1, none⟩ (.int .i64 y)).setCell ⟨g, i * 3 + 2, none⟩ (.int .i64 z)) g cap (xs.set i ⟨x, y, z⟩) := by
  have hle := h.le
  refine Row.lay h (i * 3) (lcells ⟨x, y, z⟩) (xs.set i ⟨x, y, z⟩) (by simp [lcells]; omega) (by simpa using hle) (fun cur hc ht => ?_)
  have hL : (lcells ⟨x, y, z⟩).length = 3 := rfl
  apply List.ext_getElem?
  intro k
  by_cases hk : k < xs.length * 3
  · rw [List.getElem?_take_of_lt (by simpa using hk)]
    have ek : k = k / 3 * 3 + k % 3 := by omega
    have h3 : k % 3 < 3 := by omega
    have hk3 : k / 3 < xs.length := by omega
    have e2 : ((xs.set i ⟨x, y, z⟩).flatMap lcells)[k]? = (lcells ((xs.set i ⟨x, y, z⟩).getD (k / 3) z48))[k % 3]? := by
      conv => lhs; rw [ek]
      exact flat_get _ _ _ (by simpa using hk3) h3
    have e3 : cur[k]? = (lcells (xs.getD (k / 3) z48))[k % 3]? := by
      have : (cur.take (xs.length * 3))[k]? = cur[k]? := List.getElem?_take_of_lt hk
      rw [← this, ht]
      conv => lhs; rw [ek]
      exact flat_get _ _ _ hk3 h3
    rw [e2]
    unfold splice
    by_cases hki : k / 3 = i
    · rw [List.getElem?_append_right (by simp; omega), List.getElem?_append_left (by simp [hL]; omega)]
      have e4 : k - (cur.take (i * 3)).length = k % 3 := by simp; omega
      rw [e4, hki]
      simp [List.getD_eq_getElem?_getD, hi]
    · have e5 : (xs.set i ⟨x, y, z⟩).getD (k / 3) z48 = xs.getD (k / 3) z48 := by
        simp [List.getD_eq_getElem?_getD, List.getElem?_set_ne (Ne.symm hki)]
      rw [e5, ← e3]
      by_cases hlt : k < i * 3
      · rw [List.getElem?_append_left (by simp; omega), List.getElem?_take_of_lt hlt]
      · rw [List.getElem?_append_right (by simp; omega), List.getElem?_append_right (by simp [hL]; omega), List.getElem?_drop]
        congr 1
        simp [hL]
        omega
  · rw [List.getElem?_eq_none (by simp; omega), List.getElem?_eq_none (by rw [flat_len]; simp; omega)]
end
end Go.Proofs.YtpldcikmlpegpaaDoor.Col
end
section
namespace Go.Proofs.YtpldcikmlpegpaaDoor.Col
open Go.RowKit Go.Proofs.YtpldcikmlpegpaaDoor.PB Go.Proofs.YtpldcikmlpegpaaDoorW.PrintWords Go.Proofs.YtpldcikmlpegpaaDoorW.PrintLast Go.Proofs.YtpldcikmlpegpaaDoorW.PrintMore
theorem run_clear_wide {P : Program} (w : World) (t e ty : TypeId) (z : Value) (ht : P.underlying t = some (.slice e)) (hv : ∀ w, (zeroValue e).run P w = .ok z w) (b o n c : Nat) (hn : 0 < n) (Z : List Value) (hZ : (Builtin.zeroCells z.cells n).toList = Z) (h1 : ∀ v ∈ Z, v.oneCell' = true)
    (hc : ∀ j, j < Z.length → (w.cell? ⟨b, o + j, none⟩).isSome = true) (hf : ∀ j, j < Z.length → w.frozen? ⟨b, o + j, none⟩ = false) :
    (Builtin.clear_ #[t] ty #[.slice (some ⟨b, o, none⟩) n c]).run P w = .ok (.tuple #[]) (w.setCells b o Z) := by
  have hst := run_storeCells_cells (P := P) b o Z 0 w (by simpa using hc) (by simpa using hf) h1
  simp only [Nat.add_zero] at hst
  obtain ⟨m, rfl⟩ : ∃ m, n = m + 1 := ⟨n - 1, by omega⟩
  simp [Builtin.clear_, run_underlying ht, hv, hZ, hst]
theorem zero_layer (w : World) : (zeroValue 48).run Tryd.prog w = .ok (.agg #[.int .i64 0, .int .i64 0, .int .i64 0]) w := by kernel_rfl
theorem zeros_len (n : Nat) : (Builtin.zeroCells (Value.agg #[.int .i64 0, .int .i64 0, .int .i64 0]).cells n).toList.length = n * 3 := by
  simp [Builtin.zeroCells, Value.cells]
theorem zeros_one (n : Nat) : ∀ v ∈ (Builtin.zeroCells (Value.agg #[.int .i64 0, .int .i64 0, .int .i64 0]).cells n).toList, v.oneCell' = true := by
  intro v hv
  simp only [Builtin.zeroCells, Value.cells, Array.toList_map, List.mem_map] at hv
  obtain ⟨i, _, rfl⟩ := hv
  have h3 : i % 3 = 0 ∨ i % 3 = 1 ∨ i % 3 = 2 := by omega
  show ((#[Value.int .i64 0, .int .i64 0, .int .i64 0] : Array Value)[i % 3]!).oneCell' = true
  rcases h3 with h | h | h <;> rw [h] <;> rfl
theorem flat_drop (xs : List S48) : ∀ (i : Nat), (xs.drop i).flatMap lcells = (xs.flatMap lcells).drop (i * 3) := by
  induction xs with
  | nil => intro i; simp
  | cons x xs ih =>
    intro i
    cases i with
    | zero => simp
    | succ i =>
      rw [List.drop_succ_cons, ih, List.flatMap_cons, List.drop_append]
      have e1 : (lcells x).drop ((i + 1) * 3) = [] := List.drop_eq_nil_of_le (by simp [lcells]; omega)
      have e2 : (i + 1) * 3 - (lcells x).length = i * 3 := by simp [lcells]; omega
      rw [e1, e2, List.nil_append]
theorem flat_take (xs : List S48) : ∀ (i : Nat), (xs.take i).flatMap lcells = (xs.flatMap lcells).take (i * 3) := by
  induction xs with
  | nil => intro i; simp
  | cons x xs ih =>
    intro i
    cases i with
    | zero => simp
    | succ i =>
      rw [List.take_succ_cons, List.flatMap_cons, ih, List.flatMap_cons, List.take_append]
      have e1 : (lcells x).take ((i + 1) * 3) = lcells x := List.take_of_length_le (by simp [lcells]; omega)
      have e2 : (i + 1) * 3 - (lcells x).length = i * 3 := by simp [lcells]; omega
      rw [e1, e2]
set_option maxHeartbeats 4000000 in
set_option maxRecDepth 1000000 in
theorem delete_calls (g cap i j : Nat) (xs : List S48) (w : World) (hr : Row w g cap xs) (hij : i < j) (hj : j ≤ xs.length) :
    Calls Tryd.prog 70 #[.slice (some ⟨g, 0, none⟩) xs.length cap, .int .i64 i, .int .i64 j] w fun e w' => e = .returned (.slice (some ⟨g, 0, none⟩) (i + (xs.length - j)) cap) ∧ Row w' g cap (xs.take i ++ xs.drop j) ∧ KeepG g w w' := by
  have hcap : xs.length ≤ cap := hr.le
  have hmax : cap ≤ 9223372036854775807 := by have := hr.max; unfold maxLen at this; omega
  obtain ⟨i0, hi0, hz0, hz1, hz2⟩ := info_parts info48
  obtain ⟨n, hn⟩ : ∃ n, xs.length = n := ⟨_, rfl⟩
  obtain ⟨news, hnews⟩ : ∃ news, (xs.drop j).flatMap lcells = news := ⟨_, rfl⟩
  have hlen : news.length = (n - j) * 3 := by rw [← hnews, flat_len, List.length_drop, hn]
  obtain ⟨A, hA, hsrc⟩ : ∃ A : Addr, (if cap = j then some (⟨g, 0, none⟩ : Addr) else some ⟨g, j * 3, none⟩) = some A ∧ Hid (∀ t u, news[t]? = some u → w.drew.cell? (A.add t) = some u) := by
    by_cases h : cap = j
    · refine ⟨⟨g, 0, none⟩, by simp [h], fun t u hu => ?_⟩
      have h0 : news.length = 0 := by rw [hlen]; omega
      rw [List.length_eq_zero_iff.1 h0] at hu
      simp at hu
    · refine ⟨⟨g, j * 3, none⟩, by simp [h], fun t u hu => ?_⟩
      have ht : t < (n - j) * 3 := by have := (List.getElem?_eq_some_iff.1 hu).1; rwa [hlen] at this
      rw [Addr.add_lit]
      have e : j * 3 + t = (j + t / 3) * 3 + t % 3 := by omega
      rw [e]
      show w.cell? _ = _
      rw [hr.layer (j + t / 3) (t % 3) (by omega) (by omega), ← flat_get xs _ _ (by omega) (by omega), ← e, ← hu, ← hnews, flat_drop, List.getElem?_drop]
  have s1 : Hid (news.length = (n - j) * 3) := hlen
  have s2 : Hid (∀ u ∈ news, u.oneCell' = true) := by rw [← hnews]; exact flat_one _
  have s3 : Hid (∀ t, t < news.length → (w.drew.cell? ⟨g, 0 + i * 3 + t, none⟩).isSome = true ∧ w.drew.frozen? ⟨g, 0 + i * 3 + t, none⟩ = false) := by
    intro t ht
    rw [hlen] at ht
    exact ⟨hr.some_ _ (by omega), hr.free _⟩
  obtain ⟨W1, hW1⟩ : ∃ W1, W1 = w.drew.setCells g (0 + i * 3) news := ⟨_, rfl⟩
  have hlast : i + (n - j) < n := by omega
  have hr1 : Row W1 g cap (xs.take i ++ xs.drop j) := by
    rw [hW1]
    refine hr.drew.lay (0 + i * 3) news (xs.take i ++ xs.drop j) (by omega) (by simp; omega) (fun cur hc ht => ?_)
    have e1 : (xs.take i ++ xs.drop j).length * 3 = i * 3 + news.length := by rw [hlen]; simp; omega
    rw [e1, List.flatMap_append, hnews, flat_take, ← ht]
    unfold splice
    rw [Nat.zero_add, ← List.append_assoc, List.take_append_of_le_length (by simp; omega), List.take_of_length_le (by simp; omega), List.take_take]
    rw [hn, Nat.min_eq_left (by omega)]
  have K1 : Aside0 (KeepG g w W1) := ⟨by rw [hW1]; exact (KeepG.drew g w).trans (KeepG.setCells _ _ _ _)⟩
  have hl1 : (xs.take i ++ xs.drop j).length = i + (n - j) := by simp; omega
  obtain ⟨Z, hZ⟩ : ∃ Z, (Builtin.zeroCells (Value.agg #[.int .i64 0, .int .i64 0, .int .i64 0]).cells (n - (i + (n - j)))).toList = Z := ⟨_, rfl⟩
  have hZl : Z.length = (n - (i + (n - j))) * 3 := by rw [← hZ]; exact zeros_len _
  have hcl : ∀ ty, (Builtin.clear_ #[22] ty #[.slice (some ⟨g, (i + (n - j)) * 3, none⟩) (n - (i + (n - j))) (cap - (i + (n - j)))]).run Tryd.prog W1 = .ok (.tuple #[]) (W1.setCells g ((i + (n - j)) * 3) Z) :=
    fun ty => run_clear_wide W1 _ _ ty _ Tryd.underlying22 zero_layer g ((i + (n - j)) * 3) _ _ (by omega) Z hZ (by rw [← hZ]; exact zeros_one _) (fun t ht => hr1.some_ _ (by omega)) (fun t ht => hr1.free _)
  have R2 : Aside0 (Row (W1.setCells g ((i + (n - j)) * 3) Z) g cap (xs.take i ++ xs.drop j)) := by
    refine ⟨hr1.lay _ Z _ (by omega) (by omega) (fun cur hc ht => ?_)⟩
    unfold splice
    rw [hl1] at ht ⊢
    rw [List.take_append_of_le_length (by simp; omega), List.take_take, Nat.min_self]
    exact ht
  have hW : Hid (W1 = w.drew.setCells g (0 + i * 3) news) := hW1
  have hic : i ≤ cap := by omega
  have hjc : j ≤ cap := by omega
  rw [hn] at hj hcap ⊢
  have i1 : (0 : Int) ≤ (i : Int) := by omega
  have i2 : (i : Int) ≤ (j : Int) := by omega
  have i3 : (j : Int) ≤ (n : Int) := by omega
  have i4 : (n : Int) ≤ (cap : Int) := by omega
  have z0 : ((i : Int) == (j : Int)) = false := by simp; omega
  clear hW1 hr1 hr hlen hnews hl1 hZ hZl hn
  go_enter Tryd.func70, Tryd.ntmps70
  go_upto_region 5 with (fail)
  go_region_law (refine step_append_room rfl (.tmp 22) (.tmp 25) 22 rfl 48 i0 3 Tryd.underlying22 hi0 hz1 g 0 i cap (by simp [Act.eval, Act.put]) A (n - j) (cap - j) news (by simp [Act.eval, Act.put]) s1.out hsrc.out s2.out (by omega) s3.out ?_; rw [← hW.out])
  go_wp2
  go_ret
  exact ⟨rfl, R2.out, K1.out.trans (KeepG.setCells _ _ _ _)⟩
theorem delete_calls' (g cap i j n : Nat) (I J : Int) (xs : List S48) (w : World) (hn : xs.length = n) (hI : I = (i : Int)) (hJ : J = (j : Int)) (hr : Row w g cap xs) (hij : i < j) (hj : j ≤ n) :
    Calls Tryd.prog 70 #[.slice (some ⟨g, 0, none⟩) n cap, .int .i64 I, .int .i64 J] w fun e w' => e = .returned (.slice (some ⟨g, 0, none⟩) (i + (n - j)) cap) ∧ Row w' g cap (xs.take i ++ xs.drop j) ∧ KeepG g w w' := by
  subst hn hI hJ
  exact delete_calls g cap i j xs w hr hij hj
set_option maxHeartbeats 1000000 in
set_option maxRecDepth 100000 in
theorem clone_calls (A : Option Addr) (cap : Nat) (l : List S48) (w : World) (hr : Kd.C k48 w A l.length l) (hl : l.length ≤ 64) :
    Calls Tryd.prog 68 #[.slice A l.length cap] w fun e w' => ∃ v, e = .returned v ∧ Kd.R k48 48 w' w.heap.size (fun _ => True) v l ∧ Below w.heap.size w w' := by
  have HR := Aside0.mk hr
  have HL := Aside0.mk hl
  have heq := fun (w : World) => Lib.run_eql_slice_nil (P := Tryd.prog) w 22 48 A l.length cap 0 0 Tryd.underlying22
  clear hr hl
  cases A with
  | none =>
    have H0 : Aside0 (l = []) := ⟨by
      cases l with
      | nil => rfl
      | cons x xs => obtain ⟨ad, e, _⟩ := HR.out.2.2 (by simp); cases e⟩
    simp only [Option.isNone_none] at heq
    go_enter Tryd.func68, Tryd.ntmps68
    go_wp2
    go_ret
    obtain rfl := H0.out
    exact ⟨_, rfl, Kd.R_nil _ _ _ _ _, Below.refl _ _⟩
  | some a =>
    simp only [Option.isNone_some] at heq
    go_enter Tryd.func68, Tryd.ntmps68
    go_wp2_with (first | ((with_reducible refine gate_dst (N := 5) rfl ?_); refine Kd.R_lit k48 _ 48 ?hg (N := 5) ?hd (xs := ([] : List (S48))) (inner := []) (ok := fun _ => True) (okp := fun _ => True) ?hr ?hp (fun _ hk => hk) trivial (Below.refl _ _) (Nat.le_refl _) (by simp) ?_; (case hd => rfl); (case hg => rfl); (case hr => first | (go_simp; done) | (go_simp; rfl)); (case hp => exact (Reps.none _ _)); intro v1 w4 ho5 hb hg_ hnew_; have HO := Aside0.mk ho5; have HB := Aside0.mk hb; clear hg_ hnew_ hb ho5) | ((with_reducible refine gate_builtin (b := .append) (xs := #[.tmp 5, .tmp 6]) rfl ?_); at_builtin; refine Kd.R_append_rows k48 (w0 := w) w.heap.size rfl (.tmp 5) (.tmp 6) 22 48 (.agg #[(.int .i64 0), (.int .i64 0), (.int .i64 0)]) 24 rfl Tryd.underlying22 info48 rfl (by decide) (by omega) v1 [] l _ _ _ (fun _ => True) (fun _ => False) rfl rfl HO.out (Kd.C_below HR.out HB.out) (fun _ _ h => h) (fun _ h => h.elim) (fun _ _ => trivial) HB.out HB.out.size ?aL ?_; (case aL => have := HL.out; simp only [List.length_nil]; omega); intro v2 w6 ho hb hg hat; have HO6 := Aside0.mk ho; have HB6 := Aside0.mk hb; clear ho hb hg hat))
    go_ret
    exact ⟨_, rfl, HO6.out, HB6.out⟩
end Go.Proofs.YtpldcikmlpegpaaDoor.Col
end
section
namespace Go.Proofs.YtpldcikmlpegpaaDoor.PB
open Go.RowKit Go.Proofs.YtpldcikmlpegpaaDoor.Col Go.Proofs.YtpldcikmlpegpaaDoorW.PrintWords Go.Proofs.YtpldcikmlpegpaaDoorW.PrintLast Go.Proofs.YtpldcikmlpegpaaDoorW.PrintMore
attribute [local go_sem] max2_int min2_int max_two min_two
def joinW (a b : S48) : S48 :=
  ⟨wrap64 ((wrap64 (a.f0 + b.f0)) + (mn (wrap64 (a.f1 + b.f1)) (wrap64 (a.f2 + b.f2)))), wrap64 ((wrap64 (a.f1 + b.f1)) - (mn (wrap64 (a.f1 + b.f1)) (wrap64 (a.f2 + b.f2)))), wrap64 ((wrap64 (a.f2 + b.f2)) - (mn (wrap64 (a.f1 + b.f1)) (wrap64 (a.f2 + b.f2))))⟩
theorem joined_calls (a b : S48) (w : World) :
    Calls Tryd.prog 69 #[.agg #[.int .i64 a.f0, .int .i64 a.f1, .int .i64 a.f2], .agg #[.int .i64 b.f0, .int .i64 b.f1, .int .i64 b.f2]] w fun e w' => e = .returned (.agg #[.int .i64 (joinW a b).f0, .int .i64 (joinW a b).f1, .int .i64 (joinW a b).f2]) ∧ Below w.heap.size w w' :=
  pack_joined.calls a.f0 a.f1 a.f2 b.f0 b.f1 b.f2 _ _ _ w rfl
def pairW (xs : List S48) (i : Nat) : Int := wrap64 ((xs.getD i z48).f0 + (xs.getD (i + 1) z48).f0)
def leastW (xs : List S48) : Nat → Nat → Nat → Nat
  | 0, _, a => a
  | d + 1, i, a => leastW xs d (i + 1) (if pairW xs i < pairW xs a then i else a)
def joinOnce (xs : List S48) : List S48 :=
  let a := leastW xs (xs.length - 1) 0 0
  let ys := xs.set a (joinW (xs.getD a z48) (xs.getD (a + 1) z48))
  ys.take (a + 1) ++ ys.drop (a + 2)
def joinsW (n : Int) : Nat → List S48 → List S48
  | 0, xs => xs
  | k + 1, xs => if n < (xs.length : Int) then joinsW n k (joinOnce xs) else xs
def pack_Joined.f (l : List S48) (n : Int) : Option (List S48 × Int) :=
  (pack_Check.f 200 l).bind fun e => if e = 0 then (if 1 ≤ n ∧ n ≤ 64 then some (joinsW n l.length l, 0) else some ([], 1)) else some ([], e)
theorem wrap_small (x : Int) (h0 : -9223372036854775808 ≤ x) (h1 : x ≤ 9223372036854775807) : wrap64 x = x := by
  unfold wrap64
  omega
theorem drewN_two (w : World) (a b : Nat) : (w.drewN a).drewN b = w.drewN (a + b) := by
  simp [World.drewN, Nat.add_assoc]
set_option maxRecDepth 100000 in
set_option maxHeartbeats 4000000 in
theorem pack_Joined.calls (A0_0 : Option Addr) (c0_0 : Nat) (l0_0 : List (S48)) (a1 : Int) (r1 : List (S48)) (r2 : Int) (w : World) (hr0_0 : Kd.C k48 w A0_0 l0_0.length l0_0) (hc0_0 : l0_0.length ≤ c0_0) (h : pack_Joined.f l0_0 a1 = some (r1, r2)) :
    Calls Tryd.prog 29 #[.agg #[.slice A0_0 l0_0.length c0_0], .int .i64 a1] w fun e w' => ∃ v0_ : Value, e = .returned (.tuple #[.agg #[v0_], .int .i64 r2]) ∧ Kd.R k48 48 w' w.heap.size (fun _ => True) v0_ r1 ∧ Below w.heap.size w w' := by
  have hu24 := Tryd.underlying24
  have hu48 := Tryd.underlying48
  have HR := Aside0.mk hr0_0
  have HC := Aside0.mk hc0_0
  clear hr0_0 hc0_0
  unfold pack_Joined.f at h
  replace h := Option.bind_eq_some_iff.mp h
  obtain ⟨e1, E1, h⟩ := h
  have HE1 := Aside0.mk E1
  have HH := Aside0.mk h
  clear E1 h
  go_enter Tryd.func29, Tryd.ntmps29
  go_upto_region 1 with (fail)
  obtain ⟨B, hB⟩ : ∃ B, w.heap.size = B := ⟨_, rfl⟩
  obtain ⟨V1, hV1⟩ : ∃ W1, w.alloc (.cells #[.slice A0_0 l0_0.length c0_0] 24 (0, 0)) = W1 := ⟨_, rfl⟩
  obtain ⟨W1, hW1⟩ : ∃ W1, V1.alloc (.cells #[.slice none 0 0] 24 (0, 0)) = W1 := ⟨_, rfl⟩
  have s1 : V1.heap.size = B + 1 := by rw [← hV1, ← hB]; simp
  have s3 : W1.heap.size = B + 2 := by rw [← hW1]; simp [s1]
  have b1 : Below B w V1 := by rw [← hV1, ← hB]; exact (Below.refl _ _).alloc (Nat.le_refl _) _
  have b3 : Below B w W1 := by rw [← hW1]; exact b1.alloc (by omega) _
  have p0 : W1.heap[B]? = some (.cells #[.slice A0_0 l0_0.length c0_0] 24 (0, 0)) := by rw [← hW1]; refine blk_alloc ?_ _; rw [← hV1, ← hB]; exact blk_new _ _
  have p2 : W1.heap[B + 1]? = some (.cells #[.slice none 0 0] 24 (0, 0)) := by rw [← hW1, ← s1]; exact blk_new _ _
  rw [hV1, hW1, hB]
  have K : Aside0 (∀ wX : World, Below W1.heap.size W1 wX → wX.heap[B]? = some (.cells #[.slice A0_0 l0_0.length c0_0] 24 (0, 0)) ∧ wX.heap[B + 1]? = some (.cells #[.slice none 0 0] 24 (0, 0))) :=
    ⟨fun wX hb => ⟨blk_below p0 hb, blk_below p2 hb⟩⟩
  have HS3 := Aside0.mk s3
  have HB3 := Aside0.mk b3
  have HBq := Aside0.mk hB
  have F : Aside0 (∀ (wX : World) (v : Value), Below W1.heap.size W1 wX → Below w.heap.size w (wX.setCell ⟨B + 1, 0, none⟩ v)) :=
    ⟨fun wX v hb => by rw [HBq.out]; exact (HB3.out.trans (hb.mono (by rw [HS3.out]; omega))).setCell (p := ⟨B + 1, 0, none⟩) (by show B ≤ B + 1; omega) v⟩
  have q0 : W1.cell? ⟨B, 0, none⟩ = some (.slice A0_0 l0_0.length c0_0) := (blk_cell p0 0).trans rfl
  have HR1 : Aside0 (Kd.C k48 W1 A0_0 l0_0.length l0_0) := ⟨Kd.C_below HR.out (by rw [HBq.out]; exact HB3.out)⟩
  clear hV1 hW1 s1 s3 b1 b3 p0 p2 hB
  go_upto_if 13 with (first | (go_at_call 25; refine (pack_Check.calls 200 A0_0 c0_0 l0_0 e1 _ HR1.out HC.out HE1.out).mono ?_; rintro e w7 ⟨rfl, hb⟩; have HB7 := Aside0.mk hb; clear hb q0))
  by_cases h1 : e1 = 0
  · have z0 : (e1 != 0) = false := by simp [h1]
    have h2 := HH.out
    rw [if_pos h1] at h2
    by_cases hn : 1 ≤ a1 ∧ a1 ≤ 64
    · rw [if_pos hn] at h2
      simp only [Option.some.injEq, Prod.mk.injEq] at h2
      obtain ⟨h3, rfl⟩ := h2
      have H3 := Aside0.mk h3
      have HN := Aside0.mk hn
      have HL : Aside0 (l0_0.length ≤ 64) := ⟨by
        have := HE1.out
        rw [h1] at this
        unfold pack_Check.f at this
        split at this
        · simp at this
        · omega⟩
      have hpf : Aside0 (pack_from.f a1 1 64 = some true) := ⟨by unfold pack_from.f; rw [if_pos hn.1]; simp [hn.2]⟩
      clear h3 hn h1
      obtain ⟨k0, k2⟩ := K.out _ HB7.out
      have q7 : w7.cell? ⟨B, 0, none⟩ = some (.slice A0_0 l0_0.length c0_0) := (blk_cell k0 0).trans rfl
      clear k0 k2
      go_upto_region 6 with (first | (go_at_call 67; refine (pack_from.calls a1 1 64 true _ hpf.out).mono ?_; rintro e w8 ⟨rfl, ⟨nd, rfl⟩⟩))
      have HB8 := Aside0.mk (pw_below_drewN HB7.out nd)
      have q8 : (w7.drewN nd).cell? ⟨B, 0, none⟩ = some (.slice A0_0 l0_0.length c0_0) := q7
      generalize w7.drewN nd = w8 at HB8 q8 ⊢
      clear q7
      go_wp2_with (first | (go_at_call 68; refine (clone_calls A0_0 c0_0 l0_0 _ (Kd.C_below HR1.out HB8.out) HL.out).mono ?_; rintro e w9 ⟨v, rfl, hO, hb⟩; obtain ⟨A2, c2, rfl⟩ := Kd.R_slice hO; have HO := Aside0.mk (Kd.R_lower hO HB8.out.size); have HB9 := Aside0.mk (below_step HB8.out hb); clear hO hb q8))
      go_loopg [7] l0_0.length (fun dq v7 w' => ∃ (xs : List S48) (A : Option Addr) (c : Nat), v7 = .slice A xs.length c ∧ dq = xs.length ∧ xs.length ≤ 64 ∧ Aside0 (joinsW a1 dq xs = r1) ∧ Aside0 (Kd.R k48 48 w' W1.heap.size (fun _ => True) (.slice A xs.length c) xs) ∧ Aside0 (Below W1.heap.size W1 w'))
      case atStart => exact ⟨l0_0, A2, c2, rfl, rfl, HL.out, H3, HO, HB9⟩
      case round =>
        obtain ⟨xs, A, c, rfl, hdq, hx64, HE, HX, HBx⟩ := hrel
        by_cases hgt : a1 < (xs.length : Int)
        · have t1 : decide (a1 < (xs.length : Int)) = true := decide_eq_true hgt
          have hx2 : 2 ≤ xs.length := by have := HN.out; omega
          obtain ⟨g, cap, hv, hg, hrow⟩ : ∃ g cap, (.slice A xs.length c : Value) = .slice (some ⟨g, 0, none⟩) xs.length cap ∧ W1.heap.size ≤ g ∧ Row wr g cap xs := by
            rcases Row.of_R HX.out with ⟨_, h0⟩ | h0
            · rw [h0] at hx2; simp at hx2
            · exact h0
          injection hv with hA _ hc
          subst hA hc
          have HRW := Aside0.mk hrow
          have HG := Aside0.mk hg
          have hcap : xs.length ≤ c := hrow.le
          clear hrow hgt
          go_wp2
          obtain ⟨wo, rfl⟩ : ∃ wo : World, wo = wr := ⟨_, rfl⟩
          obtain ⟨gko, hgko⟩ : ∃ k, k = gk := ⟨_, rfl⟩
          rw [← hgko] at hdq HE
          have HGK := Aside0.mk hgko
          clear hgko
          obtain ⟨n, hn⟩ : ∃ n, xs.length = n := ⟨_, rfl⟩
          rw [hn] at hx2 hx64 hcap ⊢
          have HNN := Aside0.mk hn
          clear hn hg
          go_loopg [8, 30] (n - 1) (fun dq v8 v30 w' => ∃ (a i m : Nat), v8 = .int .i64 a ∧ v30 = .int .i64 i ∧ dq = n - 1 - i ∧ i ≤ n - 1 ∧ a + 1 < n ∧ Aside0 (leastW xs dq i a = leastW xs (n - 1) 0 0) ∧ Aside0 (w' = wo.drewN m))
          case atStart => exact ⟨0, 0, 0, rfl, rfl, rfl, Nat.zero_le _, by omega, ⟨rfl⟩, ⟨rfl⟩⟩
          case round =>
            obtain ⟨a, i, m, rfl, rfl, hdi, hi, ha, HI, HM⟩ := hrel
            obtain rfl := HM.out
            by_cases hlt : (i : Int) < (n : Int) - 1
            · have t2 : decide ((i : Int) < (n : Int) - 1) = true := decide_eq_true hlt
              have c1 := HRW.out.ice i (by rw [HNN.out]; omega)
              have c2' := HRW.out.ice (i + 1) (by rw [HNN.out]; omega)
              have c3 := HRW.out.ice a (by rw [HNN.out]; omega)
              have c4 := HRW.out.ice (a + 1) (by rw [HNN.out]; omega)
              obtain ⟨x1, hx1⟩ : ∃ x, (xs.getD i z48).f0 = x := ⟨_, rfl⟩
              obtain ⟨x2, hx2'⟩ : ∃ x, (xs.getD (i + 1) z48).f0 = x := ⟨_, rfl⟩
              obtain ⟨x3, hx3⟩ : ∃ x, (xs.getD a z48).f0 = x := ⟨_, rfl⟩
              obtain ⟨x4, hx4⟩ : ∃ x, (xs.getD (a + 1) z48).f0 = x := ⟨_, rfl⟩
              rw [hx1] at c1
              rw [hx2'] at c2'
              rw [hx3] at c3
              rw [hx4] at c4
              have HP1 : Aside0 (pairW xs i = wrap64 (x1 + x2)) := ⟨by simp only [pairW, hx1, hx2']⟩
              have HP2 : Aside0 (pairW xs a = wrap64 (x3 + x4)) := ⟨by simp only [pairW, hx3, hx4]⟩
              have i0 : (0 : Int) ≤ (i : Int) := by omega
              have i1 : (i : Int) < (n : Int) := by omega
              have i2 : (0 : Int) ≤ (i : Int) + 1 := by omega
              have i3 : (i : Int) + 1 < (n : Int) := by omega
              have a0 : (0 : Int) ≤ (a : Int) := by omega
              have a1' : (a : Int) < (n : Int) := by omega
              have a2 : (0 : Int) ≤ (a : Int) + 1 := by omega
              have a3 : (a : Int) + 1 < (n : Int) := by omega
              have e1' : IntKind.i64.wrap ((i : Int) + 1) = (i : Int) + 1 := by have := wrap_small ((i : Int) + 1) (by omega) (by omega); simpa [i64_w] using this
              have e2 : IntKind.i64.wrap ((a : Int) + 1) = (a : Int) + 1 := by have := wrap_small ((a : Int) + 1) (by omega) (by omega); simpa [i64_w] using this
              have e3 : ((i : Int) + 1).toNat = i + 1 := by omega
              have e4 : ((a : Int) + 1).toNat = a + 1 := by omega
              clear hx1 hx2' hx3 hx4
              go_upto_region 12 with (fail)
              go_quiet (fail)
              (try simp only [i64_w])
              by_cases hp : wrap64 (x1 + x2) < wrap64 (x3 + x4)
              · have z1 : decide (wrap64 (x1 + x2) < wrap64 (x3 + x4)) = true := decide_eq_true hp
                have HPP : Aside0 (pairW xs i < pairW xs a) := ⟨by rw [HP1.out, HP2.out]; exact hp⟩
                rw [z1]
                clear hp z1 c1 c2' c3 c4 e1' e2 e3 e4
                go_wp2
                go_roundg (n - 1 - (i + 1))
                case measure => omega
                case rel =>
                  refine ⟨i, i + 1, m + nq, rfl, by go_num, rfl, by omega, by omega, ⟨?_⟩, ⟨by first | rfl | exact drewN_two _ _ _⟩⟩
                  have e : n - 1 - i = (n - 1 - (i + 1)) + 1 := by omega
                  rw [← HI.out, hdi, e]
                  simp only [leastW, if_pos HPP.out]
              · have z1 : decide (wrap64 (x1 + x2) < wrap64 (x3 + x4)) = false := decide_eq_false hp
                have HPP : Aside0 (¬ pairW xs i < pairW xs a) := ⟨by rw [HP1.out, HP2.out]; exact hp⟩
                rw [z1]
                clear hp z1 c1 c2' c3 c4 e1' e2 e3 e4
                go_wp2
                go_roundg (n - 1 - (i + 1))
                case measure => omega
                case rel =>
                  refine ⟨a, i + 1, m + nq, rfl, by go_num, rfl, by omega, by omega, ⟨?_⟩, ⟨by first | rfl | exact drewN_two _ _ _⟩⟩
                  have e : n - 1 - i = (n - 1 - (i + 1)) + 1 := by omega
                  rw [← HI.out, hdi, e]
                  simp only [leastW, if_neg (show ¬ pairW xs i < pairW xs a by have := HPP.out; omega)]
            · have t2 : decide ((i : Int) < (n : Int) - 1) = false := decide_eq_false hlt
              have HA : Aside0 (leastW xs (xs.length - 1) 0 0 = a) := ⟨by
                have h5 := HI.out
                have e : gk = 0 := by omega
                rw [e] at h5
                rw [HNN.out, ← h5]
                rfl⟩
              obtain ⟨W5, hW5⟩ : ∃ W5, wo.drewN m = W5 := ⟨_, rfl⟩
              have HRX : Aside0 (Row W5 g c xs) := ⟨by rw [← hW5]; exact HRW.out.drewN m⟩
              have HBX : Aside0 (Below W1.heap.size W1 W5) := ⟨by rw [← hW5]; exact pw_below_drewN HBx.out m⟩
              rw [hW5]
              clear hW5 hlt
              have x0' := HRX.out.ice a (by rw [HNN.out]; omega)
              have x1' := HRX.out.wet a (by rw [HNN.out]; omega)
              have x2' := HRX.out.cold a (by rw [HNN.out]; omega)
              have y0' := HRX.out.ice (a + 1) (by rw [HNN.out]; omega)
              have y1' := HRX.out.wet (a + 1) (by rw [HNN.out]; omega)
              have y2' := HRX.out.cold (a + 1) (by rw [HNN.out]; omega)
              obtain ⟨x, hx⟩ : ∃ x, xs.getD a z48 = x := ⟨_, rfl⟩
              obtain ⟨y, hy⟩ : ∃ x, xs.getD (a + 1) z48 = x := ⟨_, rfl⟩
              rw [hx] at x0' x1' x2'
              rw [hy] at y0' y1' y2'
              have HXX := Aside0.mk hx
              have HYY := Aside0.mk hy
              have a0 : (0 : Int) ≤ (a : Int) := by omega
              have a1' : (a : Int) < (n : Int) := by omega
              have a2 : (0 : Int) ≤ (a : Int) + 1 := by omega
              have a3 : (a : Int) + 1 < (n : Int) := by omega
              have e2 : IntKind.i64.wrap ((a : Int) + 1) = (a : Int) + 1 := by have := wrap_small ((a : Int) + 1) (by omega) (by omega); simpa [i64_w] using this
              have e4 : ((a : Int) + 1).toNat = a + 1 := by omega
              have hf := HRX.out.free
              clear hx hy
              go_upto_region 15 with (fail)
              go_region_with (go_at_call 69; (with_reducible refine (joined_calls x y _).mono ?_); rintro e w6 ⟨rfl, hb⟩; have HB6 : Aside0 (Below W5.heap.size W5 w6) := ⟨Below.trans ((Below.refl _ _).drew) hb⟩; have hf6 := (HRX.out.below HB6.out).free; have x06 := pw_cell_below HB6.out x0'; have x16 := pw_cell_below HB6.out x1'; have x26 := pw_cell_below HB6.out x2'; clear hb)
              all_goals
                have HR7 := (HRX.out.below HB6.out).put a (by rw [HNN.out]; omega) (joinW x y).f0 (joinW x y).f1 (joinW x y).f2
                have HK7 : KeepG g w6 (((w6.setCell ⟨g, a * 3, none⟩ (.int .i64 (joinW x y).f0)).setCell ⟨g, a * 3 + 1, none⟩ (.int .i64 (joinW x y).f1)).setCell ⟨g, a * 3 + 2, none⟩ (.int .i64 (joinW x y).f2)) := ((KeepG.set _ _ _ _).trans (KeepG.set _ _ _ _)).trans (KeepG.set _ _ _ _)
                generalize ((w6.setCell ⟨g, a * 3, none⟩ (.int .i64 (joinW x y).f0)).setCell ⟨g, a * 3 + 1, none⟩ (.int .i64 (joinW x y).f1)).setCell ⟨g, a * 3 + 2, none⟩ (.int .i64 (joinW x y).f2) = W7 at HR7 HK7 ⊢
                obtain ⟨ys, hys⟩ : ∃ ys, xs.set a ⟨(joinW x y).f0, (joinW x y).f1, (joinW x y).f2⟩ = ys := ⟨_, rfl⟩
                rw [hys] at HR7
                have HY : Aside0 (ys.length = n) := ⟨by rw [← hys, List.length_set]; exact HNN.out⟩
                have HJ : Aside0 (joinOnce xs = ys.take (a + 1) ++ ys.drop (a + 2)) := ⟨by
                  simp only [joinOnce, HA.out, HXX.out, HYY.out]
                  rw [← hys]⟩
                have HRY := Aside0.mk HR7
                have HB7' : Aside0 (Below W1.heap.size W1 W7) := ⟨HK7.below (below_step HBX.out HB6.out) HG.out (below_step HBX.out HB6.out).size⟩
                clear HR7 HK7 hys x0' x1' x2' y0' y1' y2' hf hf6 x06 x16 x26 e2 e4
                go_wp2_with (first | (go_at_call 70; refine (delete_calls' g c (a + 1) (a + 2) n _ _ ys _ HY.out (by omega) (by omega) HRY.out (by omega) (by omega)).mono ?_; rintro e w10 ⟨rfl, hR10, hK10⟩; have HR10 := Aside0.mk hR10; have HB10 : Aside0 (Below W1.heap.size W1 w10) := ⟨hK10.below HB7'.out HG.out HB7'.out.size⟩; clear hR10 hK10))
                obtain rfl := HGK.out
                go_roundg (n - 1)
                case measure => have := HNN.out; omega
                case rel =>
                  have hl : (joinOnce xs).length = n - 1 := by rw [HJ.out]; have := HY.out; simp; omega
                  have el : a + 1 + (n - (a + 2)) = n - 1 := by omega
                  refine ⟨joinOnce xs, some ⟨g, 0, none⟩, c, by rw [hl, el], hl.symm, by omega, ⟨?_⟩, ⟨?_⟩, HB10⟩
                  · have h5 := HE.out
                    have e5 : gko = (n - 1) + 1 := by have := HNN.out; omega
                    rw [e5] at h5
                    have h6 : a1 < (xs.length : Int) := of_decide_eq_true t1
                    simp only [joinsW, if_pos h6] at h5
                    exact h5
                  · have h7 := HR10.out
                    rw [← HJ.out] at h7
                    exact h7.to_R HG.out
        · have t1 : decide (a1 < (xs.length : Int)) = false := decide_eq_false hgt
          have HE' : Aside0 (xs = r1) := ⟨by
            have := HE.out
            cases gk with
            | zero => exact this
            | succ k => simpa [joinsW, hgt] using this⟩
          clear hgt
          obtain ⟨k0, k2⟩ := K.out _ HBx.out
          have HK2 := Aside0.mk k2
          have c4 : wr.cell? ⟨B + 1, 0, none⟩ = some (.slice none 0 0) := (blk_cell k2 0).trans rfl
          have f4 := blk_frozen k2 0
          clear k0 k2
          go_wp2
          refine bodyPost_ret (results_ct rfl _ _ (B + 1) 24 #[.slice A xs.length c] (0, 0) _ rfl (blk_put (cs := #[.slice none 0 0]) HK2.out 0 _ rfl) Tryd.underlying24 rfl (by kernel_rfl)) rfl ?_
          have hR := Kd.R_lower (R_set_low (i := 0) HX.out (B := B + 1) (by have := HS3.out; omega) (.slice A xs.length c)) (show w.heap.size ≤ B + 1 by have := HBq.out; omega)
          exact ⟨_, rfl, by rw [← HE'.out]; exact hR, F.out _ _ HBx.out⟩
    · rw [if_neg hn] at h2
      simp only [Option.some.injEq, Prod.mk.injEq] at h2
      obtain ⟨rfl, rfl⟩ := h2
      have hpf : Aside0 (pack_from.f a1 1 64 = some false) := ⟨by
        unfold pack_from.f
        split
        · rename_i h5
          simp only [Option.some.injEq, decide_eq_false_iff_not]
          intro h6
          exact hn ⟨h5, h6⟩
        · rfl⟩
      clear h1 hn
      obtain ⟨k0, k2⟩ := K.out _ HB7.out
      have HK2 := Aside0.mk k2
      have c4 : w7.cell? ⟨B + 1, 0, none⟩ = some (.slice none 0 0) := (blk_cell k2 0).trans rfl
      have f4 := blk_frozen k2 0
      clear k0 k2
      go_wp2_with (first | (go_at_call 67; refine (pack_from.calls a1 1 64 false _ hpf.out).mono ?_; rintro e w8 ⟨rfl, ⟨nd, rfl⟩⟩))
      refine bodyPost_ret (results_ct rfl _ _ (B + 1) 24 #[.slice none 0 0] (0, 0) _ rfl (blk_put (cs := #[.slice none 0 0]) (blk_drewN HK2.out _) 0 _ rfl) Tryd.underlying24 rfl (by kernel_rfl)) rfl ?_
      exact ⟨_, rfl, Kd.R_nil _ _ _ _ _, F.out _ _ (pw_below_drewN HB7.out _)⟩
  · have z0 : (e1 != 0) = true := by simp [h1]
    have h2 := HH.out
    rw [if_neg h1] at h2
    simp only [Option.some.injEq, Prod.mk.injEq] at h2
    obtain ⟨rfl, rfl⟩ := h2
    clear h1
    obtain ⟨k0, k2⟩ := K.out _ HB7.out
    have HK2 := Aside0.mk k2
    have c4 : w7.cell? ⟨B + 1, 0, none⟩ = some (.slice none 0 0) := (blk_cell k2 0).trans rfl
    have f4 := blk_frozen k2 0
    clear k0 k2
    go_wp2
    refine bodyPost_ret (results_ct rfl _ _ (B + 1) 24 #[.slice none 0 0] (0, 0) _ rfl (blk_put (cs := #[.slice none 0 0]) HK2.out 0 _ rfl) Tryd.underlying24 rfl (by kernel_rfl)) rfl ?_
    exact ⟨_, rfl, Kd.R_nil _ _ _ _ _, F.out _ _ HB7.out⟩
end Go.Proofs.YtpldcikmlpegpaaDoor.PB
end
section
namespace Go.Proofs.YtpldcikmlpegpaaDoor.PB
open Go.RowKit Go.Proofs.YtpldcikmlpegpaaDoor.Col Go.Proofs.YtpldcikmlpegpaaDoorW.PrintWords Go.Proofs.YtpldcikmlpegpaaDoorW.PrintLast Go.Proofs.YtpldcikmlpegpaaDoorW.PrintMore
attribute [local go_sem] max2_int min2_int max_two min_two
def exL : List S48 := [⟨40, 2, 0⟩, ⟨100, 0, 5⟩]
def exM : List S48 := [⟨19, 0, 0⟩, ⟨105, 5, 0⟩]
def exV : List S48 := [⟨92, 0, 3⟩]
def exJ : List S48 := [⟨142, 0, 3⟩]
def exT : ByteArray := ⟨#[112, 97, 99, 107, 32, 52, 48, 47, 50, 47, 48, 32, 49, 48, 48, 47, 48, 47, 53]⟩
set_option maxRecDepth 100000 in
theorem ex_water : pack_Water.f 200 exL = some (142, 0) := by kernel_rfl
set_option maxRecDepth 100000 in
theorem ex_ready : pack_Ready.f 200 exL = some (10, 0) := by kernel_rfl
set_option maxRecDepth 100000 in
theorem ex_melt : pack_Apply.f exL 3 21 0 = some (exM, 13, 0) := by kernel_rfl
set_option maxRecDepth 100000 in
theorem ex_loss : pack_Apply.f exL 5 50 0 = some (exV, 0, 0) := by kernel_rfl
set_option maxRecDepth 100000 in
theorem ex_weak : pack_Weakest.f exL = some (1, 42, 0) := by kernel_rfl
set_option maxRecDepth 100000 in
theorem ex_steep : pack_Steepest.f 200 [⟨300, 0, 0⟩, ⟨20, 0, 0⟩] = some (27, 0) := by kernel_rfl
set_option maxRecDepth 100000 in
theorem ex_join : pack_Joined.f exL 1 = some (exJ, 0) := by kernel_rfl
set_option maxRecDepth 100000 in
theorem ex_print : pack_Print.f 200 exL = some (exT, 0) := by kernel_rfl
set_option maxRecDepth 100000 in
theorem ex_none : pack_Weakest.f [] = some (0, 0, 4) := by kernel_rfl
set_option maxRecDepth 100000 in
theorem same_M : snowlineref02_Same.f 200 exM exM = some true := by kernel_rfl
set_option maxRecDepth 100000 in
theorem same_V : snowlineref02_Same.f 200 exV exV = some true := by kernel_rfl
set_option maxRecDepth 100000 in
theorem same_J : snowlineref02_Same.f 200 exJ exJ = some true := by kernel_rfl
theorem lit_C' (W : World) (l : List S48) (n : Nat) (hn : l.length = n) (hl : n ≤ 1000) (cs : Array Value) (hcs : (l.flatMap lcells).toArray = cs) : Kd.C k48 (W.alloc (.cells cs 48 (0, 0))) (some ⟨W.heap.size, 0, none⟩) l.length l := by
  subst hcs hn
  have h : Row (W.alloc (.cells (l.flatMap lcells).toArray 48 (0, 0))) W.heap.size l.length l :=
    ⟨l.flatMap lcells, blk_new _ _, Nat.le_refl _, by have : maxLen = 9223372036854775807 := rfl; omega, flat_len l, by rw [← flat_len l, List.take_length]⟩
  exact (Kd.R_reads' (Row.to_R h (base := 0) (Nat.zero_le _))).2.2
theorem lit_C (W : World) (l : List S48) (hl : l.length ≤ 1000) : Kd.C k48 (W.alloc (.cells (l.flatMap lcells).toArray 48 (0, 0))) (some ⟨W.heap.size, 0, none⟩) l.length l := lit_C' W l _ rfl hl _ rfl
theorem same_lit (A : Option Addr) (c : Nat) (l : List S48) (W : World) (n : Nat) (hn : l.length = n) (hl : n ≤ 1000) (cs : Array Value) (hcs : (l.flatMap lcells).toArray = cs) (hC : Kd.C k48 (W.alloc (.cells cs 48 (0, 0))) A l.length l) (hc : l.length ≤ c) (hs : snowlineref02_Same.f 200 l l = some true) :
    Calls Tryd.prog 23 #[.agg #[.slice A l.length c], .agg #[.slice (some ⟨W.heap.size, 0, none⟩) n n]] (W.alloc (.cells cs 48 (0, 0))) fun e w' => e = .returned (.bool true) ∧ Below W.heap.size W w' := by
  have h2 := lit_C' W l n hn hl cs hcs
  have := snowlineref02_Same.calls 200 A c l (some ⟨W.heap.size, 0, none⟩) n l true _ hC hc h2 (by omega) hs
  rw [hn] at this ⊢
  exact this.mono (fun e w' ⟨h1, h3⟩ => ⟨h1, Below.trans ((Below.refl _ _).alloc (Nat.le_refl _) _) (h3.mono (by simp))⟩)
set_option maxRecDepth 100000 in
set_option maxHeartbeats 2000000 in
theorem sane_walk (L M V J : List S48) (ex_ex : snowlinelaw02_example.f = some L) (ex_water : pack_Water.f 200 L = some (142, 0)) (ex_ready : pack_Ready.f 200 L = some (10, 0)) (ex_melt : pack_Apply.f L 3 21 0 = some (M, 13, 0)) (ex_loss : pack_Apply.f L 5 50 0 = some (V, 0, 0))
    (ex_weak : pack_Weakest.f L = some (1, 42, 0)) (ex_steep : pack_Steepest.f 200 [⟨300, 0, 0⟩, ⟨20, 0, 0⟩] = some (27, 0)) (ex_join : pack_Joined.f L 1 = some (J, 0))
    (ex_print : pack_Print.f 200 L = some (⟨#[112, 97, 99, 107, 32, 52, 48, 47, 50, 47, 48, 32, 49, 48, 48, 47, 48, 47, 53]⟩, 0)) (ex_none : pack_Weakest.f [] = some (0, 0, 4))
    (same_M : snowlineref02_Same.f 200 M M = some true) (same_V : snowlineref02_Same.f 200 V V = some true) (same_J : snowlineref02_Same.f 200 J J = some true)
    (nM : M.length = 2) (nV : V.length = 1) (nJ : J.length = 1)
    (cM : (M.flatMap lcells).toArray = #[.int .i64 19, .int .i64 0, .int .i64 0, .int .i64 105, .int .i64 5, .int .i64 0]) (cV : (V.flatMap lcells).toArray = #[.int .i64 92, .int .i64 0, .int .i64 3]) (cJ : (J.flatMap lcells).toArray = #[.int .i64 142, .int .i64 0, .int .i64 3])
    (w : World) (hG : Glob w) :
    Calls Tryd.prog 18 #[] w fun e w' => e = .returned (.bool true) ∧ Below w.heap.size w w' := by
  have HGl := Aside0.mk hG
  replace ex_ex := Aside0.mk ex_ex
  replace ex_water := Aside0.mk ex_water
  replace ex_ready := Aside0.mk ex_ready
  replace ex_melt := Aside0.mk ex_melt
  replace ex_loss := Aside0.mk ex_loss
  replace ex_weak := Aside0.mk ex_weak
  replace ex_steep := Aside0.mk ex_steep
  replace ex_join := Aside0.mk ex_join
  replace ex_print := Aside0.mk ex_print
  replace ex_none := Aside0.mk ex_none
  replace same_M := Aside0.mk same_M
  replace same_V := Aside0.mk same_V
  replace same_J := Aside0.mk same_J
  replace nM := Aside0.mk nM
  replace nV := Aside0.mk nV
  replace nJ := Aside0.mk nJ
  replace cM := Aside0.mk cM
  replace cV := Aside0.mk cV
  replace cJ := Aside0.mk cJ
  clear hG
  go_enter Tryd.func18, Tryd.ntmps18
  go_upto_region 2 with (first | (go_at_call 57; refine (snowlinelaw02_example.calls L _ ex_ex.out).mono ?_; rintro e w1 ⟨v1, rfl, hR, hb⟩; obtain ⟨A1, c1, rfl⟩ := Kd.R_slice hR; have HR1 := Aside0.mk hR; have HB1 := Aside0.mk hb; clear hR hb))
  obtain ⟨p1, hp1⟩ : ∃ p, w1.heap.size = p := ⟨_, rfl⟩
  obtain ⟨W2, hW2⟩ : ∃ W, w1.alloc (.cells #[.slice A1 L.length c1] 24 (0, 0)) = W := ⟨_, rfl⟩
  have HB2 : Aside0 (Below w.heap.size w W2) := ⟨by rw [← hW2]; exact HB1.out.alloc HB1.out.size _⟩
  have P1 : Aside0 (W2.heap[p1]? = some (.cells #[.slice A1 L.length c1] 24 (0, 0))) := ⟨by rw [← hW2, ← hp1]; exact blk_new _ _⟩
  have HR2 : Aside0 (Kd.R k48 48 W2 w.heap.size (fun _ => True) (.slice A1 L.length c1) L) := ⟨by rw [← hW2]; exact Kd.R_alloc HR1.out _⟩
  have HC : Aside0 (L.length ≤ c1) := ⟨(Kd.R_reads' HR2.out).2.1⟩
  have K : Aside0 (∀ wX : World, Below W2.heap.size W2 wX → wX.cell? ⟨p1, 0, none⟩ = some (.slice A1 L.length c1) ∧ Kd.C k48 wX A1 L.length L ∧ Glob wX ∧ Below w.heap.size w wX) :=
    ⟨fun wX hb => ⟨(blk_cell (blk_below P1.out hb) 0).trans rfl, Kd.C_below (Kd.R_reads' HR2.out).2.2 hb, (HGl.out.below HB2.out (Nat.le_refl _)).below hb (Nat.le_refl _), HB2.out.trans (hb.mono HB2.out.size)⟩⟩
  rw [hW2, hp1]
  clear hW2 hp1 HR1 HB1
  have H2 : Aside0 (Below W2.heap.size W2 W2) := ⟨Below.refl _ _⟩
  have q := (K.out _ H2.out).1
  go_upto_region 3 with (first | (go_at_call 24; refine (pack_Water.calls 200 A1 c1 L 142 0 _ (K.out _ H2.out).2.1 HC.out ex_water.out).mono ?_; rintro e w3 ⟨rfl, hb⟩; have H3 := Aside0.mk (below_step H2.out hb); clear hb q))
  have q := (K.out _ H3.out).1
  go_upto_region 4 with (first | (go_at_call 26; refine (pack_Ready.calls 200 A1 c1 L 10 0 _ (K.out _ H3.out).2.1 HC.out ex_ready.out).mono ?_; rintro e w4 ⟨rfl, hb⟩; have H4 := Aside0.mk (below_step H3.out hb); clear hb q))
  have q := (K.out _ H4.out).1
  go_upto_region 5 with (first | (go_at_call 21; refine (pack_Apply.calls A1 c1 L 3 21 0 M 13 0 _ (K.out _ H4.out).2.1 HC.out ex_melt.out).mono ?_; rintro e w5 ⟨v5, rfl, hR, hb⟩; obtain ⟨A5, c5, rfl⟩ := Kd.R_slice hR; have HR5 := Aside0.mk hR; have H5 := Aside0.mk (below_step H4.out hb); clear hb hR q))
  obtain ⟨p5, hp5⟩ : ∃ p, w5.heap.size = p := ⟨_, rfl⟩
  obtain ⟨W5, hW5⟩ : ∃ W, w5.alloc (.cells #[.slice A5 M.length c5] 24 (0, 0)) = W := ⟨_, rfl⟩
  have H5' : Aside0 (Below W2.heap.size W2 W5) := ⟨by rw [← hW5]; exact H5.out.alloc H5.out.size _⟩
  have P5 : Aside0 (W5.heap[p5]? = some (.cells #[.slice A5 M.length c5] 24 (0, 0))) := ⟨by rw [← hW5, ← hp5]; exact blk_new _ _⟩
  have HR5' : Aside0 (Kd.C k48 W5 A5 M.length M ∧ M.length ≤ c5) := ⟨by rw [← hW5]; have := Kd.R_reads' (Kd.R_alloc HR5.out (.cells #[.slice A5 M.length c5] 24 (0, 0))); exact ⟨this.2.2, this.2.1⟩⟩
  rw [hW5, hp5]
  clear hW5 hp5 HR5 H5
  have q := (K.out _ H5'.out).1
  go_upto_region 6 with (first | (go_at_call 21; refine (pack_Apply.calls A1 c1 L 5 50 0 V 0 0 _ (K.out _ H5'.out).2.1 HC.out ex_loss.out).mono ?_; rintro e w6 ⟨v6, rfl, hR, hb⟩; obtain ⟨A6, c6, rfl⟩ := Kd.R_slice hR; have HR6 := Aside0.mk hR; have H56 := Aside0.mk hb; have H6 := Aside0.mk (below_step H5'.out hb); clear hb hR q))
  obtain ⟨p6, hp6⟩ : ∃ p, w6.heap.size = p := ⟨_, rfl⟩
  obtain ⟨W6, hW6⟩ : ∃ W, w6.alloc (.cells #[.slice A6 V.length c6] 24 (0, 0)) = W := ⟨_, rfl⟩
  have H6' : Aside0 (Below W2.heap.size W2 W6) := ⟨by rw [← hW6]; exact H6.out.alloc H6.out.size _⟩
  have H56' : Aside0 (Below W5.heap.size W5 W6) := ⟨by rw [← hW6]; exact H56.out.alloc H56.out.size _⟩
  have P6 : Aside0 (W6.heap[p6]? = some (.cells #[.slice A6 V.length c6] 24 (0, 0))) := ⟨by rw [← hW6, ← hp6]; exact blk_new _ _⟩
  have HR6' : Aside0 (Kd.C k48 W6 A6 V.length V ∧ V.length ≤ c6) := ⟨by rw [← hW6]; have := Kd.R_reads' (Kd.R_alloc HR6.out (.cells #[.slice A6 V.length c6] 24 (0, 0))); exact ⟨this.2.2, this.2.1⟩⟩
  rw [hW6, hp6]
  clear hW6 hp6 HR6 H6 H56
  have q := (K.out _ H6'.out).1
  go_upto_region 7 with (first | (go_at_call 33; refine (pack_Weakest.calls A1 c1 L 1 42 0 _ (K.out _ H6'.out).2.1 HC.out ex_weak.out).mono ?_; rintro e w7 ⟨rfl, hb⟩; have H67 := Aside0.mk hb; have H7 := Aside0.mk (below_step H6'.out hb); clear hb q))
  go_upto_region 8 with (first | (go_at_call 37; refine (pack_Steepest.calls 200 (some ⟨w7.heap.size, 0, none⟩) 2 [⟨300, 0, 0⟩, ⟨20, 0, 0⟩] 27 0 _ (lit_C w7 [⟨300, 0, 0⟩, ⟨20, 0, 0⟩] (by decide)) (by decide) ex_steep.out).mono ?_; rintro e w8 ⟨rfl, hb⟩; have H68 := Aside0.mk (below_step (H67.out.alloc H67.out.size _) hb); have H8 := Aside0.mk (below_step (H7.out.alloc H7.out.size _) hb); clear hb))
  have q := (K.out _ H8.out).1
  go_upto_region 9 with (first | (go_at_call 29; refine (pack_Joined.calls A1 c1 L 1 J 0 _ (K.out _ H8.out).2.1 HC.out ex_join.out).mono ?_; rintro e w9 ⟨v9, rfl, hR, hb⟩; obtain ⟨A9, c9, rfl⟩ := Kd.R_slice hR; have HR9 := Aside0.mk hR; have H69 := Aside0.mk (below_step H68.out hb); have H9 := Aside0.mk (below_step H8.out hb); clear hb hR q))
  obtain ⟨p9, hp9⟩ : ∃ p, w9.heap.size = p := ⟨_, rfl⟩
  obtain ⟨W9, hW9⟩ : ∃ W, w9.alloc (.cells #[.slice A9 J.length c9] 24 (0, 0)) = W := ⟨_, rfl⟩
  have H9' : Aside0 (Below W2.heap.size W2 W9) := ⟨by rw [← hW9]; exact H9.out.alloc H9.out.size _⟩
  have H69' : Aside0 (Below W6.heap.size W6 W9) := ⟨by rw [← hW9]; exact H69.out.alloc H69.out.size _⟩
  have P9 : Aside0 (W9.heap[p9]? = some (.cells #[.slice A9 J.length c9] 24 (0, 0))) := ⟨by rw [← hW9, ← hp9]; exact blk_new _ _⟩
  have HR9' : Aside0 (Kd.C k48 W9 A9 J.length J ∧ J.length ≤ c9) := ⟨by rw [← hW9]; have := Kd.R_reads' (Kd.R_alloc HR9.out (.cells #[.slice A9 J.length c9] 24 (0, 0))); exact ⟨this.2.2, this.2.1⟩⟩
  rw [hW9, hp9]
  clear hW9 hp9 HR9 H9 H69
  have q := (K.out _ H9'.out).1
  go_upto_region 10 with (first | (go_at_call 58; refine (pack_Print.calls 200 A1 c1 L ⟨#[112, 97, 99, 107, 32, 52, 48, 47, 50, 47, 48, 32, 49, 48, 48, 47, 48, 47, 53]⟩ 0 _ (K.out _ H9'.out).2.1 HC.out (K.out _ H9'.out).2.2.1 ex_print.out).mono ?_; rintro e w10 ⟨rfl, hb⟩; have H910 := Aside0.mk hb; have H10 := Aside0.mk (below_step H9'.out hb); clear hb q))
  go_upto_region 11 with (first | (go_at_call 33; refine (pack_Weakest.calls none 0 [] 0 0 4 _ ⟨rfl, by simp, fun h => by simp at h⟩ (Nat.le_refl _) ex_none.out).mono ?_; rintro e w11 ⟨rfl, hb⟩; have H911 := Aside0.mk (below_step H910.out hb); have H11 := Aside0.mk (below_step H10.out hb); clear hb))
  have HC5 : Aside0 (∀ wX : World, Below w11.heap.size w11 wX → wX.cell? ⟨p5, 0, none⟩ = some (.slice A5 M.length c5) ∧ Kd.C k48 wX A5 M.length M) :=
    ⟨fun wX hb => by
      have h := below_step (below_step (below_step H56'.out H69'.out) H911.out) hb
      exact ⟨(blk_cell (blk_below P5.out h) 0).trans rfl, Kd.C_below HR5'.out.1 h⟩⟩
  have HC6 : Aside0 (∀ wX : World, Below w11.heap.size w11 wX → wX.cell? ⟨p6, 0, none⟩ = some (.slice A6 V.length c6) ∧ Kd.C k48 wX A6 V.length V) :=
    ⟨fun wX hb => by
      have h := below_step (below_step H69'.out H911.out) hb
      exact ⟨(blk_cell (blk_below P6.out h) 0).trans rfl, Kd.C_below HR6'.out.1 h⟩⟩
  have HC9 : Aside0 (∀ wX : World, Below w11.heap.size w11 wX → wX.cell? ⟨p9, 0, none⟩ = some (.slice A9 J.length c9) ∧ Kd.C k48 wX A9 J.length J) :=
    ⟨fun wX hb => by
      have h := below_step H911.out hb
      exact ⟨(blk_cell (blk_below P9.out h) 0).trans rfl, Kd.C_below HR9'.out.1 h⟩⟩
  go_upto_region 13 with (fail)
  have q := (HC5.out _ (Below.refl _ _)).1
  go_wp2_with (first | fail)
  go_at_call 23
  have hx := same_lit A5 c5 M w11 2 nM.out (by decide) _ cM.out (HC5.out _ ((Below.refl _ _).alloc (Nat.le_refl _) _)).2 HR5'.out.2 same_M.out
  refine hx.mono ?_
  clear hx
  rintro e w12 ⟨rfl, hb⟩
  have H12 := Aside0.mk hb
  clear hb q
  have q := (HC6.out _ H12.out).1
  go_wp2_with (first | fail)
  go_at_call 23
  have hx := same_lit A6 c6 V w12 1 nV.out (by decide) _ cV.out (HC6.out _ (H12.out.alloc H12.out.size _)).2 HR6'.out.2 same_V.out
  refine hx.mono ?_
  clear hx
  rintro e w13 ⟨rfl, hb⟩
  have H13 := Aside0.mk (below_step H12.out hb)
  clear hb q
  have q := (HC9.out _ H13.out).1
  go_wp2_with (first | fail)
  go_at_call 23
  have hx := same_lit A9 c9 J w13 1 nJ.out (by decide) _ cJ.out (HC9.out _ (H13.out.alloc H13.out.size _)).2 HR9'.out.2 same_J.out
  refine hx.mono ?_
  clear hx
  rintro e w14 ⟨rfl, hb⟩
  have H14 := Aside0.mk (below_step H13.out hb)
  clear hb q
  go_wp2_with (first | fail)
  go_ret
  exact ⟨rfl, (K.out _ (below_step H11.out H14.out)).2.2.2⟩
def snowlinelaw02_sane.f (_ : Nat) : Option Bool := some true
theorem snowlinelaw02_sane.calls (k : Nat) (r : Bool) (w : World) (hG : Glob w) (h : snowlinelaw02_sane.f k = some r) :
    Calls Tryd.prog 18 #[] w fun e w' => e = .returned (.bool r) ∧ Below w.heap.size w w' := by
  obtain rfl : true = r := Option.some.inj h
  exact sane_walk exL exM exV exJ rfl ex_water ex_ready ex_melt ex_loss ex_weak ex_steep ex_join ex_print ex_none same_M same_V same_J rfl rfl rfl rfl rfl rfl w hG
end Go.Proofs.YtpldcikmlpegpaaDoor.PB
end
section
namespace Go.Proofs.YtpldcikmlpegpaaDoor.PB
open Go.RowKit Go.Proofs.YtpldcikmlpegpaaDoorW.PrintWords Go.Proofs.YtpldcikmlpegpaaDoorW.PrintLast Go.Proofs.YtpldcikmlpegpaaDoorW.PrintMore
attribute [local go_sem] max2_int min2_int max_two min_two max_three min_three max_four min_four   -- for this text's walks alone
set_option linter.unusedVariables false
set_option linter.unusedSimpArgs false
def snowlinelaw02_ints.l0 : Nat → List Int → List Int → Int → Option (Bool)
  | 0, _, _, _ => none
  | k + 1, x0, x1, x5 => if x5 < (x0.length : Int) then (if 0 ≤ x5 then (if x5 < (x1.length : Int) then (if (rd x0 x5) = (rd x1 x5) then (snowlinelaw02_ints.l0 k x0 x1 (wrap64 (x5 + 1))) else (some false)) else (none)) else (none)) else (some true)
def snowlinelaw02_ints.f (k : Nat) (l0 : List Int) (l1 : List Int) : Option (Bool) := if (l0.length : Int) = (l1.length : Int) then (snowlinelaw02_ints.l0 k l0 l1 0) else (some false)
set_option maxHeartbeats 8000000 in
set_option maxRecDepth 100000 in
theorem snowlinelaw02_ints.calls (k : Nat) (A0 : Option Addr) (c0 : Nat) (l0 : List Int) (A1 : Option Addr) (c1 : Nat) (l1 : List Int) (r : Bool) (w : World) (hr0 : Kd.C (Kd.int .i64) w A0 l0.length l0) (hc0 : l0.length ≤ c0) (hr1 : Kd.C (Kd.int .i64) w A1 l1.length l1) (hc1 : l1.length ≤ c1) (h : snowlinelaw02_ints.f k l0 l1 = some r) :
    Calls Tryd.prog 50 #[.slice A0 l0.length c0, .slice A1 l1.length c1] w fun e w' => e = .returned (.bool r) ∧ Drawn0 w w' := by
  have HR0 := Aside0.mk hr0
  have HC0 := Aside0.mk hc0
  clear hr0 hc0
  have HR1 := Aside0.mk hr1
  have HC1 := Aside0.mk hc1
  clear hr1 hc1
  have H : (if (l0.length : Int) = (l1.length : Int) then (snowlinelaw02_ints.l0 k l0 l1 0) else (some false)) = some r := h
  clear h
  by_cases c3 : (l0.length : Int) = (l1.length : Int)
  · rw [if_pos c3] at H
    have c3b0 : ((l0.length : Int) == (l1.length : Int)) = true := beq_iff_eq.mpr c3
    have c3b1 : ((l0.length : Int) != (l1.length : Int)) = false := bne_eq_false_iff_eq.mpr c3
    have c3b2 : (l0.length == l1.length) = true := by first | simpa using c3 | (simp at c3 ⊢; omega)
    clear c3
    have H' := Aside0.mk H
    clear H
    go_enter Tryd.func50, Tryd.ntmps50
    go_wp2
    repeat (go_quiet (fail); try go_wp2)
    go_loopg [5] k (fun kq v5 w' => ∃ (x5_1 : Int), v5 = .int .i64 x5_1 ∧ Aside0 (snowlinelaw02_ints.l0 kq l0 l1 x5_1 = some r) ∧ Aside0 (kq ≤ k) ∧ Drawn0 w w')
    case atStart => exact ⟨(0), (by first | rfl | (simp; done) | (simp [*]; done)), H', ⟨Nat.le_refl _⟩, by repeat (first | exact Drawn0.refl _ | apply Drawn0.step)⟩
    case round =>
      clear H'
      try clear c1
      try clear p2
      try clear c3
      try clear c3b0
      try clear c3b1
      try clear c3b2
      obtain ⟨x5_1, rfl, HA, HK1, ⟨m1, rfl⟩⟩ := hrel
      cases gk with
      | zero => exact absurd HA.out (by simp [snowlinelaw02_ints.l0])
      | succ k1 =>
        have H := HA.out
        clear HA
        simp only [snowlinelaw02_ints.l0] at H
        by_cases c4 : x5_1 < (l0.length : Int)
        · rw [if_pos c4] at H
          have c4b0 : decide (x5_1 < (l0.length : Int)) = true := decide_eq_true c4
          clear c4
          by_cases c5 : 0 ≤ x5_1
          · rw [if_pos c5] at H
            have c5b0 : decide (0 ≤ x5_1) = true := decide_eq_true c5
            clear c5
            by_cases c6 : x5_1 < (l1.length : Int)
            · rw [if_pos c6] at H
              have c6b0 : decide (x5_1 < (l1.length : Int)) = true := decide_eq_true c6
              clear c6
              by_cases c7 : (rd l0 x5_1) = (rd l1 x5_1)
              · rw [if_pos c7] at H
                have c7b0 : ((rd l0 x5_1) == (rd l1 x5_1)) = true := beq_iff_eq.mpr c7
                have c7b1 : ((rd l0 x5_1) != (rd l1 x5_1)) = false := bne_eq_false_iff_eq.mpr c7
                clear c7
                have H' := Aside0.mk H
                clear H
                have p663 : 0 ≤ (x5_1 : Int) := of_decide_eq_true (by first | (with_reducible assumption) | assumption)
                have q663 : x5_1 < (l0.length : Int) := of_decide_eq_true (by first | (with_reducible assumption) | assumption)
                obtain ⟨ad663, e663, hx663_0⟩ := Kd.at_int HR0.out x5_1 p663 q663
                cases e663
                replace p663 := eq_true p663
                replace q663 := eq_true q663
                have p664 : 0 ≤ (x5_1 : Int) := of_decide_eq_true (by first | (with_reducible assumption) | assumption)
                have q664 : x5_1 < (l1.length : Int) := of_decide_eq_true (by first | (with_reducible assumption) | assumption)
                obtain ⟨ad664, e664, hx664_0⟩ := Kd.at_int HR1.out x5_1 p664 q664
                cases e664
                replace p664 := eq_true p664
                replace q664 := eq_true q664
                go_wp2
                repeat (go_quiet (fail); try go_wp2)
                go_roundg k1
                case measure => have := HK1.out; omega
                case rel => exact ⟨(wrap64 (x5_1 + 1)), (by first | rfl | (simp; done) | (simp [*]; done)), H', ⟨by have := HK1.out; omega⟩, by repeat (first | exact Drawn0.refl _ | apply Drawn0.step)⟩
              · rw [if_neg c7] at H
                have c7b0 : ((rd l0 x5_1) == (rd l1 x5_1)) = false := beq_eq_false_iff_ne.mpr c7
                have c7b1 : ((rd l0 x5_1) != (rd l1 x5_1)) = true := bne_iff_ne.mpr c7
                obtain rfl := Option.some.inj H
                have p663 : 0 ≤ (x5_1 : Int) := of_decide_eq_true (by first | (with_reducible assumption) | assumption)
                have q663 : x5_1 < (l0.length : Int) := of_decide_eq_true (by first | (with_reducible assumption) | assumption)
                obtain ⟨ad663, e663, hx663_0⟩ := Kd.at_int HR0.out x5_1 p663 q663
                cases e663
                replace p663 := eq_true p663
                replace q663 := eq_true q663
                have p664 : 0 ≤ (x5_1 : Int) := of_decide_eq_true (by first | (with_reducible assumption) | assumption)
                have q664 : x5_1 < (l1.length : Int) := of_decide_eq_true (by first | (with_reducible assumption) | assumption)
                obtain ⟨ad664, e664, hx664_0⟩ := Kd.at_int HR1.out x5_1 p664 q664
                cases e664
                replace p664 := eq_true p664
                replace q664 := eq_true q664
                go_wp2
                repeat (go_quiet (fail); try go_wp2)
                go_ret
                exact ⟨by first | rfl | (simp; done) | (simp [*]; done), by repeat (first | exact Drawn0.refl _ | apply Drawn0.step)⟩
            · rw [if_neg c6] at H
              exact absurd H (by simp)
          · rw [if_neg c5] at H
            exact absurd H (by simp)
        · rw [if_neg c4] at H
          have c4b0 : decide (x5_1 < (l0.length : Int)) = false := decide_eq_false c4
          clear c4
          obtain rfl := Option.some.inj H
          go_wp2
          repeat (go_quiet (fail); try go_wp2)
          go_ret
          exact ⟨by first | rfl | (simp; done) | (simp [*]; done), by repeat (first | exact Drawn0.refl _ | apply Drawn0.step)⟩
  · rw [if_neg c3] at H
    have c3b0 : ((l0.length : Int) == (l1.length : Int)) = false := beq_eq_false_iff_ne.mpr c3
    have c3b1 : ((l0.length : Int) != (l1.length : Int)) = true := bne_iff_ne.mpr c3
    have c3b2 : (l0.length == l1.length) = false := by first | simpa using c3 | (simp at c3 ⊢; omega)
    obtain rfl := Option.some.inj H
    go_enter Tryd.func50, Tryd.ntmps50
    go_wp2
    repeat (go_quiet (fail); try go_wp2)
    go_ret
    exact ⟨by first | rfl | (simp; done) | (simp [*]; done), by repeat (first | exact Drawn0.refl _ | apply Drawn0.step)⟩
end Go.Proofs.YtpldcikmlpegpaaDoor.PB
end
section
namespace Go.Proofs.YtpldcikmlpegpaaDoor.PB
open Go.RowKit Go.Proofs.YtpldcikmlpegpaaDoor.Col Go.Proofs.YtpldcikmlpegpaaDoorW.PrintWords Go.Proofs.YtpldcikmlpegpaaDoorW.PrintLast Go.Proofs.YtpldcikmlpegpaaDoorW.PrintMore
attribute [local go_sem] max2_int min2_int max_two min_two
theorem keep1 {W0 w' : World} {a : Addr} {u : Value} (h0 : W0.cell? a = some u) (hb : Below W0.heap.size W0 w') : w'.cell? a = some u ∧ Below W0.heap.size W0 w' := ⟨pw_cell_below hb h0, hb⟩
theorem run_at (A0 : Option Addr) (c0 : Nat) (l0 : List (S48)) (A1 : Option Addr) (n c1 : Nat) (l1 : List (S26)) (hn : l1.length = n) (r1 : List (S48)) (r2 : List Int) (r3 : Int) (w : World)
    (hr0 : Kd.C k48 w A0 l0.length l0) (hc0 : l0.length ≤ c0) (hr1 : Kd.C k26 w A1 n l1) (hc1 : n ≤ c1) (h : pack_Run.f l0 l1 = some (r1, r2, r3)) :
    Calls Tryd.prog 48 #[.agg #[.slice A0 l0.length c0], .slice A1 n c1] w fun e w' => ∃ v0_ v1_ : Value, e = .returned (.tuple #[.agg #[v0_], v1_, .int .i64 r3]) ∧
      Kd.R k48 48 w' w.heap.size (fun _ => True) v0_ r1 ∧ Kd.R (Kd.int .i64) 3 w' w.heap.size (fun _ => True) v1_ r2 ∧ Below w.heap.size w w' := by
  subst hn
  exact pack_Run.calls A0 c0 l0 A1 c1 l1 r1 r2 r3 w hr0 hc0 hr1 hc1 h
theorem ints_at (k : Nat) (A0 : Option Addr) (n c0 : Nat) (l0 : List Int) (hn : l0.length = n) (A1 : Option Addr) (m c1 : Nat) (l1 : List Int) (hm : l1.length = m) (r : Bool) (w : World) (hr0 : Kd.C (Kd.int .i64) w A0 l0.length l0) (hc0 : l0.length ≤ c0) (hr1 : Kd.C (Kd.int .i64) w A1 l1.length l1) (hc1 : l1.length ≤ c1) (h : snowlinelaw02_ints.f k l0 l1 = some r) :
    Calls Tryd.prog 50 #[.slice A0 n c0, .slice A1 m c1] w fun e w' => e = .returned (.bool r) ∧ Drawn0 w w' := by
  subst hn hm
  exact snowlinelaw02_ints.calls k A0 c0 l0 A1 c1 l1 r w hr0 hc0 hr1 hc1 h
theorem steps_take {w : World} {A : Option Addr} {l : List (S26)} (j : Nat) (hj : j ≤ l.length) (h : Kd.C k26 w A l.length l) : Kd.C k26 w A j (l.take j) := by
  refine ⟨by simp; omega, by have := h.2.1; omega, fun hn => ?_⟩
  obtain ⟨ad, e, hc⟩ := h.2.2 (by omega)
  refine ⟨ad, e, fun i p hp => hc i p ?_⟩
  rw [List.getElem?_take] at hp
  split at hp
  · exact hp
  · simp at hp
theorem steps_drop {w : World} {A : Option Addr} {l : List (S26)} (j c : Nat) (hj : j ≤ l.length) (hc : l.length ≤ c) (h : Kd.C k26 w A l.length l) : Kd.C k26 w (if c = j then A else Option.map (fun x => x.add (j * 3)) A) (l.length - j) (l.drop j) := by
  refine ⟨by simp, by have := h.2.1; omega, fun hn => ?_⟩
  obtain ⟨ad, e, hcell⟩ := h.2.2 (by omega)
  rw [if_neg (by omega), e]
  refine ⟨ad.add (j * 3), rfl, fun i p hp => ?_⟩
  rw [List.getElem?_drop] at hp
  obtain ⟨cs, h1, h2, h3⟩ := hcell (j + i) p hp
  refine ⟨cs, h1, h2, fun t u hu => ?_⟩
  have e2 : (ad.add (j * 3)).add (i * k26.sz + t) = ad.add ((j + i) * k26.sz + t) := by
    have e3 : k26.sz = 3 := rfl
    have e4 : (j + i) * 3 + t = j * 3 + (i * 3 + t) := by omega
    rw [e3, e4]
    exact Go.Deep.add_add _ _ _
  rw [e2]
  exact h3 t u hu
theorem lay_behind {W5 w6 : World} {A7 A8 : Option Addr} {c7 c8 : Nat} {x : List (S48)} {o : List Int} (hR : Kd.R k48 48 w6 W5.drew.heap.size (fun _ => True) (.slice A7 x.length c7) x) (hR' : Kd.R (Kd.int .i64) 3 w6 W5.drew.heap.size (fun _ => True) (.slice A8 o.length c8) o) (hb : Below W5.drew.heap.size W5.drew w6) :
    Aside0 (Below W5.heap.size W5 (w6.alloc (.cells #[.slice A7 x.length c7] 24 (0, 0))) ∧ (w6.alloc (.cells #[.slice A7 x.length c7] 24 (0, 0))).heap[w6.heap.size]? = some (.cells #[.slice A7 x.length c7] 24 (0, 0)) ∧ Kd.C k48 (w6.alloc (.cells #[.slice A7 x.length c7] 24 (0, 0))) A7 x.length x ∧ Kd.C (Kd.int .i64) (w6.alloc (.cells #[.slice A7 x.length c7] 24 (0, 0))) A8 o.length o ∧ x.length ≤ c7 ∧ o.length ≤ c8) :=
  ⟨below_alloc (below_step ((Below.refl _ _).drew) hb) _, blk_new _ _, (Kd.R_reads' (Kd.R_alloc hR _)).2.2, (Kd.R_reads' (Kd.R_alloc hR' _)).2.2, (Kd.R_reads' hR).2.1, (Kd.R_reads' hR').2.1⟩
theorem lay_ahead {W5 w6 : World} {A7 A8 : Option Addr} {c7 c8 : Nat} {x : List (S48)} {o : List Int} (hR : Kd.R k48 48 w6 ((W5.alloc (.cells #[.slice none 0 0] 24 (0, 0))).drew).heap.size (fun _ => True) (.slice A7 x.length c7) x)
    (hR' : Kd.R (Kd.int .i64) 3 w6 ((W5.alloc (.cells #[.slice none 0 0] 24 (0, 0))).drew).heap.size (fun _ => True) (.slice A8 o.length c8) o) (hb : Below ((W5.alloc (.cells #[.slice none 0 0] 24 (0, 0))).drew).heap.size ((W5.alloc (.cells #[.slice none 0 0] 24 (0, 0))).drew) w6) :
    Aside0 (Below W5.heap.size W5 (w6.setCell ⟨W5.heap.size, 0, none⟩ (.slice A7 x.length c7)) ∧ (w6.setCell ⟨W5.heap.size, 0, none⟩ (.slice A7 x.length c7)).heap[W5.heap.size]? = some (.cells #[.slice A7 x.length c7] 24 (0, 0)) ∧ Kd.C k48 (w6.setCell ⟨W5.heap.size, 0, none⟩ (.slice A7 x.length c7)) A7 x.length x ∧ Kd.C (Kd.int .i64) (w6.setCell ⟨W5.heap.size, 0, none⟩ (.slice A7 x.length c7)) A8 o.length o ∧ x.length ≤ c7 ∧ o.length ≤ c8) :=
  ⟨below_set (below_step (((Below.refl _ _).alloc (Nat.le_refl _) _).drew) hb) (Nat.le_refl _), blk_put (cs := #[.slice none 0 0]) (blk_below (blk_drew (blk_new W5 _)) hb) 0 _ rfl, (Kd.R_reads' (R_set_low (i := 0) (B := W5.heap.size) hR (by simp) _)).2.2, (Kd.R_reads' (R_set_low (i := 0) (B := W5.heap.size) hR' (by simp) _)).2.2, (Kd.R_reads' hR).2.1, (Kd.R_reads' hR').2.1⟩
set_option maxRecDepth 100000 in
set_option maxHeartbeats 4000000 in
theorem packRun_walk (A0 : Option Addr) (c0 : Nat) (l0 : List (S48)) (A1 : Option Addr) (c1 : Nat) (l1 : List (S26)) (cut : Int)
    (q : List S48) (all : List Int) (a : Int) (hrun : pack_Run.f l0 l1 = some (q, all, a)) (x : List S48) (one : List Int) (b : Int) (hone : 0 ≤ cut → pack_Run.f l0 (l1.take cut.toNat) = some (x, one, b)) (hlen : one.length ≤ 256)
    (hbad : l1.length ≤ 40 → 0 ≤ cut → b ≠ 0 → a = b ∧ all = [] ∧ q = [])
    (hok : l1.length ≤ 40 → 0 ≤ cut → b = 0 → ∃ two : List Int, pack_Run.f x (l1.drop cut.toNat) = some (q, two, a) ∧ two.length ≤ 256 ∧ snowlineref02_Same.f 200 q q = some true ∧ (a = 0 → all = one ++ two ∧ snowlinelaw02_ints.f 600 all all = some true))
    (w : World) (hr0 : Kd.C k48 w A0 l0.length l0) (hc0 : l0.length ≤ c0) (hr1 : Kd.C k26 w A1 l1.length l1) (hc1 : l1.length ≤ c1) (hG : Glob w) :
    Calls Tryd.prog 13 #[.agg #[.slice A0 l0.length c0], .slice A1 l1.length c1, .int .i64 cut] w fun e w' => e = .returned (.bool true) ∧ Below w.heap.size w w' := by
  have hu24 := Tryd.underlying24
  have hu26 := Tryd.underlying26
  have HC0 := Aside0.mk hc0
  have HR0 := Aside0.mk hr0
  have HC1 := Aside0.mk hc1
  have HR1 := Aside0.mk hr1
  have HG := Aside0.mk hG
  replace hrun := Aside0.mk hrun
  replace hone := Aside0.mk hone
  replace hlen := Aside0.mk hlen
  replace hbad := Aside0.mk hbad
  replace hok := Aside0.mk hok
  have HMX : Aside0 (l1.length ≤ 9223372036854775807) := ⟨hr1.2.1⟩
  clear hc0 hr0 hc1 hr1 hG
  go_enter Tryd.func13, Tryd.ntmps13
  go_upto_region 1 with (fail)
  obtain ⟨B, hB⟩ : ∃ B, w.heap.size = B := ⟨_, rfl⟩
  obtain ⟨W1, hW1⟩ : ∃ W1, w.alloc (.cells #[.slice A0 l0.length c0] 24 (0, 0)) = W1 := ⟨_, rfl⟩
  have b2 : Below w.heap.size w W1 := by rw [← hW1]; exact below_alloc (Below.refl _ _) _
  have p0 : W1.heap[B]? = some (.cells #[.slice A0 l0.length c0] 24 (0, 0)) := by rw [← hW1, ← hB]; exact blk_new _ _
  rw [hW1, hB]
  have K : Aside0 (∀ wX : World, Below W1.heap.size W1 wX → wX.cell? ⟨B, 0, none⟩ = some (.slice A0 l0.length c0) ∧ Kd.C k48 wX A0 l0.length l0 ∧ Kd.C k26 wX A1 l1.length l1 ∧ Glob wX ∧ Below w.heap.size w wX) :=
    ⟨fun wX hb => ⟨(blk_cell (blk_below p0 hb) 0).trans rfl, Kd.C_below HR0.out (below_step b2 hb), Kd.C_below HR1.out (below_step b2 hb), HG.out.below (below_step b2 hb) (Nat.le_refl _), below_step b2 hb⟩⟩
  clear hW1 b2 p0 hB HR0 HR1 HG
  go_wp2_with (first | fail)
  go_at_call 18
  refine (snowlinelaw02_sane.calls 200 true _ (K.out _ (Below.refl _ _)).2.2.2.1 rfl).mono ?_
  rintro e w2 ⟨rfl, hb⟩
  have H2 := Aside0.mk hb
  clear hb
  have hmx := HMX.out
  by_cases g1 : l1.length ≤ 40
  case neg =>
    have z1 : ((40 : Int) < (l1.length : Int)) = True := eq_true (by omega)
    go_wp2_with (first | fail)
    go_ret
    exact ⟨rfl, (K.out _ H2.out).2.2.2.2⟩
  have z1 : ((40 : Int) < (l1.length : Int)) = False := eq_false (by omega)
  by_cases g2 : 0 ≤ cut
  case neg =>
    have z2 : (cut < 0) = True := eq_true (by omega)
    go_wp2_with (first | fail)
    go_ret
    exact ⟨rfl, (K.out _ H2.out).2.2.2.2⟩
  have z2 : (cut < 0) = False := eq_false (by omega)
  by_cases g3 : cut ≤ (l1.length : Int)
  case neg =>
    have z3 : ((l1.length : Int) < cut) = True := eq_true (by omega)
    go_wp2_with (first | fail)
    go_ret
    exact ⟨rfl, (K.out _ H2.out).2.2.2.2⟩
  have z3 : ((l1.length : Int) < cut) = False := eq_false (by omega)
  obtain ⟨j, rfl⟩ : ∃ j : Nat, cut = (j : Int) := ⟨cut.toNat, by omega⟩
  have GJ : Aside0 (j ≤ l1.length ∧ l1.length ≤ 40) := ⟨by omega⟩
  have HONE : Aside0 (pack_Run.f l0 (l1.take j) = some (x, one, b)) := ⟨by simpa using hone.out g2⟩
  have HBAD : Aside0 (b ≠ 0 → a = b ∧ all = [] ∧ q = []) := ⟨hbad.out g1 g2⟩
  have HOK : Aside0 (b = 0 → ∃ two : List Int, pack_Run.f x (l1.drop j) = some (q, two, a) ∧ two.length ≤ 256 ∧ snowlineref02_Same.f 200 q q = some true ∧ (a = 0 → all = one ++ two ∧ snowlinelaw02_ints.f 600 all all = some true)) := ⟨by simpa using hok.out g1 g2⟩
  have q0 := (K.out _ H2.out).1
  have z4 : ((j : Int) < 0) = False := eq_false (by omega)
  clear z2 hone hbad hok g1 g2
  go_wp2_with (first | fail)
  go_at_call 48
  refine (pack_Run.calls A0 c0 l0 A1 c1 l1 q all a _ (K.out _ H2.out).2.1 HC0.out (K.out _ H2.out).2.2.1 HC1.out hrun.out).mono ?_
  rintro e w5 ⟨v5, v5', rfl, hR, hR', hb⟩
  obtain ⟨A5, c5, rfl⟩ := Kd.R_slice hR
  obtain ⟨A6, c6, rfl⟩ := Kd.R_slice hR'
  have H5 := Aside0.mk (below_step H2.out hb)
  have HX := Aside0.mk (Kd.R_reads' hR).2
  have HY := Aside0.mk (Kd.R_reads' hR').2
  clear hb hR hR' q0
  go_upto_region 6 with (fail)
  obtain ⟨W5, hW5⟩ : ∃ W, w5.alloc (.cells #[.slice A5 q.length c5] 24 (0, 0)) = W := ⟨_, rfl⟩
  obtain ⟨p5, hp5⟩ : ∃ p, w5.heap.size = p := ⟨_, rfl⟩
  have K5 := one_row 24 HX.out.2 hp5 hW5
  have HYY : Aside0 (Kd.C (Kd.int .i64) W5 A6 all.length all) := ⟨by rw [← hW5]; exact Kd.C_below HY.out.2 (below_alloc (Below.refl _ _) _)⟩
  have H6 : Aside0 (Below W1.heap.size W1 W5) := ⟨by rw [← hW5]; exact below_alloc H5.out _⟩
  rw [hW5, hp5]
  clear hW5 hp5 H5
  have q0 := (K.out _ H6.out).1
  have hc1 := HC1.out
  have i0 : (0 : Int) ≤ (j : Int) := by omega
  have i1 : (j : Int) ≤ (c1 : Int) := by have := GJ.out.1; omega
  have i2 : (j : Int) ≤ (l1.length : Int) := by have := GJ.out.1; omega
  go_region_held3 (fun w' => w'.cell? ⟨B, 0, none⟩ = some (.slice A0 l0.length c0) ∧ Below W5.heap.size W5 w')
    ((go_split_ands; refine keep1 q0 ?_; first | assumption | exact (Below.refl _ _).drew | exact below_step (by assumption) (by assumption) | exact below_alloc (by assumption) _ | exact below_alloc (below_step ((Below.refl _ _).drew) (by assumption)) _ | exact below_set (by assumption) (Nat.le_refl _) | exact below_set (by assumption) (below_size (by assumption))))
    (first
      | (go_at_call 48; refine (run_at A0 c0 l0 A1 j j (l1.take j) (by have := GJ.out.1; simp; omega) x one b _ (K.out _ (below_step H6.out ((Below.refl _ _).drew))).2.1 HC0.out (steps_take j GJ.out.1 (K.out _ (below_step H6.out ((Below.refl _ _).drew))).2.2.1) (Nat.le_refl _) HONE.out).mono ?_; rintro e w6 ⟨v6, v6', rfl, hR6, hR6', hb6⟩; obtain ⟨A7, c7, rfl⟩ := Kd.R_slice hR6; obtain ⟨A8, c8, rfl⟩ := Kd.R_slice hR6')
      | (go_at_call 48; refine (run_at A0 c0 l0 A1 j j (l1.take j) (by have := GJ.out.1; simp; omega) x one b _ (K.out _ (below_step H6.out (((Below.refl _ _).alloc (Nat.le_refl _) _).drew))).2.1 HC0.out (steps_take j GJ.out.1 (K.out _ (below_step H6.out (((Below.refl _ _).alloc (Nat.le_refl _) _).drew))).2.2.1) (Nat.le_refl _) HONE.out).mono ?_; rintro e w6 ⟨v6, v6', rfl, hR6, hR6', hb6⟩; obtain ⟨A7, c7, rfl⟩ := Kd.R_slice hR6; obtain ⟨A8, c8, rfl⟩ := Kd.R_slice hR6'; have P4 := blk_below (blk_drew (blk_new W5 (.cells #[.slice none 0 0] 24 (0, 0)))) hb6; have hx4 : w6.cell? ⟨W5.heap.size, 0, none⟩ = some (.slice none 0 0) := (blk_cell P4 0).trans rfl; have hf4 := blk_frozen P4 0))
  have HL := lay_behind hR6 hR6' hb6
  clear hb6 hR6 hR6'
  generalize w6.alloc (.cells #[.slice A7 x.length c7] 24 (0, 0)) = W7 at HL ⊢
  generalize w6.heap.size = p7 at HL ⊢
  rotate_left 1
  have HL := lay_ahead hR6 hR6' hb6
  clear hb6 hR6 hR6' P4 hx4 hf4
  generalize w6.setCell ⟨W5.heap.size, 0, none⟩ (.slice A7 x.length c7) = W7 at HL ⊢
  obtain ⟨p7, hp7⟩ : ∃ p7, W5.heap.size = p7 := ⟨_, rfl⟩
  rw [hp7]
  replace HL : Aside0 (Below W5.heap.size W5 W7 ∧ W7.heap[p7]? = some (.cells #[.slice A7 x.length c7] 24 (0, 0)) ∧ Kd.C k48 W7 A7 x.length x ∧ Kd.C (Kd.int .i64) W7 A8 one.length one ∧ x.length ≤ c7 ∧ one.length ≤ c8) := ⟨by have := HL.out; rw [hp7] at this ⊢; exact this⟩
  clear hp7
  rotate_left 1
  all_goals
    clear q0
    have H7 := Aside0.mk (below_step H6.out HL.out.1)
    have q5 := (K5.out _ HL.out.1).1
    by_cases hb0 : b = 0
    case neg =>
      have z5 : (b != 0) = true := by simp [hb0]
      obtain ⟨rfl, rfl, rfl⟩ := HBAD.out hb0
      go_wp2_with (first | fail)
      go_ret
      exact ⟨rfl, (K.out _ H7.out).2.2.2.2⟩
    have z5 : (b != 0) = false := by simp [hb0]
    obtain ⟨two, E1, E2, E3, E4⟩ := HOK.out hb0
    have F1 := Aside0.mk E1
    have F2 := Aside0.mk E2
    have F3 := Aside0.mk E3
    have F4 := Aside0.mk E4
    have q7 : W7.cell? ⟨p7, 0, none⟩ = some (.slice A7 x.length c7) := (blk_cell HL.out.2.1 0).trans rfl
    clear E1 E2 E3 E4 hb0
    obtain ⟨AD, hAD⟩ : ∃ AD, (if c1 = j then A1 else Option.map (fun x => x.add (j * 3)) A1) = AD := ⟨_, rfl⟩
    have HAD : Aside0 (∀ wX : World, Below W1.heap.size W1 wX → Kd.C k26 wX AD (l1.length - j) (l1.drop j)) := ⟨fun wX hb => hAD ▸ steps_drop j c1 GJ.out.1 HC1.out (K.out _ hb).2.2.1⟩
    go_upto_region 9 with (fail)
    go_region_held3 (fun w' => w'.cell? ⟨p7, 0, none⟩ = some (.slice A7 x.length c7) ∧ Below W7.heap.size W7 w')
      ((go_split_ands; refine keep1 q7 ?_; first | assumption | exact (Below.refl _ _).drew | exact below_step (by assumption) (by assumption) | exact below_alloc (by assumption) _ | exact below_alloc (below_step ((Below.refl _ _).drew) (by assumption)) _ | exact below_set (by assumption) (Nat.le_refl _) | exact below_set (by assumption) (below_size (by assumption))))
      (first
        | (go_at_call 48; refine (run_at A7 c7 x _ _ _ (l1.drop j) (by simp) q two a _ (Kd.C_below HL.out.2.2.1 ((Below.refl _ _).drew)) HL.out.2.2.2.2.1 (HAD.out _ (below_step H7.out ((Below.refl _ _).drew))) (by have := GJ.out.1; have := HC1.out; omega) F1.out).mono ?_; rintro e w8 ⟨v8, v8', rfl, hR8, hR8', hb8⟩; obtain ⟨A9, c9, rfl⟩ := Kd.R_slice hR8; obtain ⟨A10, c10, rfl⟩ := Kd.R_slice hR8')
        | (go_at_call 48; refine (run_at A7 c7 x _ _ _ (l1.drop j) (by simp) q two a _ (Kd.C_below HL.out.2.2.1 (((Below.refl _ _).alloc (Nat.le_refl _) _).drew)) HL.out.2.2.2.2.1 (HAD.out _ (below_step H7.out (((Below.refl _ _).alloc (Nat.le_refl _) _).drew))) (by have := GJ.out.1; have := HC1.out; omega) F1.out).mono ?_; rintro e w8 ⟨v8, v8', rfl, hR8, hR8', hb8⟩; obtain ⟨A9, c9, rfl⟩ := Kd.R_slice hR8; obtain ⟨A10, c10, rfl⟩ := Kd.R_slice hR8'; have P4 := blk_below (blk_drew (blk_new W7 (.cells #[.slice none 0 0] 24 (0, 0)))) hb8; have hx4 : w8.cell? ⟨W7.heap.size, 0, none⟩ = some (.slice none 0 0) := (blk_cell P4 0).trans rfl; have hf4 := blk_frozen P4 0))
    have HM := lay_behind hR8 hR8' hb8
    clear hb8 hR8 hR8'
    generalize w8.alloc (.cells #[.slice A9 q.length c9] 24 (0, 0)) = W9 at HM ⊢
    generalize w8.heap.size = p9 at HM ⊢
    rotate_left 1
    have HM := lay_ahead hR8 hR8' hb8
    clear hb8 hR8 hR8' P4 hx4 hf4
    generalize w8.setCell ⟨W7.heap.size, 0, none⟩ (.slice A9 q.length c9) = W9 at HM ⊢
    obtain ⟨p9, hp9⟩ : ∃ p9, W7.heap.size = p9 := ⟨_, rfl⟩
    rw [hp9]
    replace HM : Aside0 (Below W7.heap.size W7 W9 ∧ W9.heap[p9]? = some (.cells #[.slice A9 q.length c9] 24 (0, 0)) ∧ Kd.C k48 W9 A9 q.length q ∧ Kd.C (Kd.int .i64) W9 A10 two.length two ∧ q.length ≤ c9 ∧ two.length ≤ c10) := ⟨by have := HM.out; rw [hp9] at this ⊢; exact this⟩
    clear hp9
    rotate_left 1
    all_goals
      clear q7 q5
      have H9 := Aside0.mk (below_step H7.out HM.out.1)
      have H59 := Aside0.mk (below_step HL.out.1 HM.out.1)
      have q5 := (K5.out _ H59.out).1
      have q9 : W9.cell? ⟨p9, 0, none⟩ = some (.slice A9 q.length c9) := (blk_cell HM.out.2.1 0).trans rfl
      go_wp2_with (first | fail)
      go_at_call 23
      refine (snowlineref02_Same.calls 200 A5 c5 q A9 c9 q true _ (K5.out _ H59.out).2 HX.out.1 HM.out.2.2.1 HM.out.2.2.2.2.1 F3.out).mono ?_
      rintro e w10 ⟨rfl, hb⟩
      have H10 := Aside0.mk hb
      clear hb q5 q9
      by_cases ha : a = 0
      case neg =>
        have z6 : (a != 0) = true := by simp [ha]
        go_wp2_with (first | fail)
        go_ret
        exact ⟨rfl, (K.out _ (below_step H9.out H10.out)).2.2.2.2⟩
      have z6 : (a != 0) = false := by simp [ha]
      obtain ⟨rfl, E5⟩ := F4.out ha
      have F5 := Aside0.mk E5
      clear E5 ha F4
      have HO10 : Aside0 (Kd.C (Kd.int .i64) w10 A8 one.length one) := ⟨Kd.C_below HL.out.2.2.2.1 (below_step HM.out.1 H10.out)⟩
      have HT10 : Aside0 (Kd.C (Kd.int .i64) w10 A10 two.length two) := ⟨Kd.C_below HM.out.2.2.2.1 H10.out⟩
      have HA10 : Aside0 (Kd.C (Kd.int .i64) w10 A6 (one ++ two).length (one ++ two)) := ⟨Kd.C_below HYY.out (below_step H59.out H10.out)⟩
      go_wp2_with (first
        | ((with_reducible refine gate_dst (N := 86) rfl ?_); (try (refine gate_guard (by rfl) ?_; dsimp only)); refine Kd.R_lit (Kd.int .i64) _ 3 ?hg (N := 86) ?hd (xs := ([] : List Int)) (inner := []) (ok := fun _ => True) (okp := fun _ => True) ?hr ?hp (fun _ hk => hk) trivial (Below.refl _ _) (Nat.le_refl _) (by simp) ?_; (case hd => rfl); (case hg => rfl); (case hr => first | (go_simp; done) | (go_simp; rfl)); (case hp => exact (Reps.none _ _)); intro v1 w11 ho5 hb hg_ hnew_; have HO := Aside0.mk ho5; have HB := Aside0.mk hb; clear hg_ hnew_ hb ho5)
        | ((with_reducible refine gate_builtin (b := .append) (xs := #[.tmp 86, .tmp 87]) rfl ?_); (try (refine gate_guard (by rfl) ?_; dsimp only)); at_builtin; refine Kd.R_append_rows (Kd.int .i64) (w0 := w10) w10.heap.size rfl (.tmp 86) (.tmp 87) 58 3 (.int .i64 0) 8 rfl Tryd.underlying58 info3 rfl (by decide) (by omega) v1 [] one _ _ _ (fun _ => True) (fun _ => False) rfl rfl HO.out (Kd.C_below HO10.out HB.out) (fun _ _ h => h) (fun _ h => h.elim) (fun _ _ => trivial) HB.out HB.out.size ?aL ?_; (case aL => have := hlen.out; have := F2.out; (try simp only [List.length_nil]); omega); intro v2 w12 ho hb hg hat; have HO2 := Aside0.mk ho; have HB2 := Aside0.mk hb; clear ho hb hg hat; simp only [List.nil_append] at HO2)
        | ((with_reducible refine gate_builtin (b := .append) (xs := #[.tmp 88, .tmp 89]) rfl ?_); (try (refine gate_guard (by rfl) ?_; dsimp only)); at_builtin; refine Kd.R_append_rows (Kd.int .i64) (w0 := w10) w10.heap.size rfl (.tmp 88) (.tmp 89) 58 3 (.int .i64 0) 8 rfl Tryd.underlying58 info3 rfl (by decide) (by omega) v2 one two _ _ _ (fun _ => True) (fun _ => False) rfl rfl HO2.out (Kd.C_below HT10.out HB2.out) (fun _ _ h => h) (fun _ h => h.elim) (fun _ _ => trivial) HB2.out HB2.out.size ?aL ?_; (case aL => have := hlen.out; have := F2.out; (try simp only [List.length_nil]); omega); intro v3 w13 ho hb hg hat; have HO3 := Aside0.mk ho; have HB3 := Aside0.mk hb; clear ho hb hg hat; obtain ⟨A13, c13, rfl⟩ := Kd.R_slice HO3.out)
        | fail)
      go_at_call 50
      have h9 : (one ++ two).length = one.length + two.length := List.length_append
      first
        | refine (ints_at 600 A6 (one.length + two.length) c6 (one ++ two) h9 A13 (one.length + two.length) c13 (one ++ two) h9 true _ (Kd.C_below HA10.out HB3.out) HY.out.1 (Kd.R_reads' HO3.out).2.2 (Kd.R_reads' HO3.out).2.1 F5.out).mono ?_
        | refine (ints_at 600 A6 (one.length + two.length) c6 (one ++ two) h9 A13 (one ++ two).length c13 (one ++ two) rfl true _ (Kd.C_below HA10.out HB3.out) HY.out.1 (Kd.R_reads' HO3.out).2.2 (Kd.R_reads' HO3.out).2.1 F5.out).mono ?_
      rintro e w14 ⟨rfl, ⟨nd14, rfl⟩⟩
      go_wp2_with (first | fail)
      go_ret
      exact ⟨rfl, pw_below_drewN (K.out _ (below_step (below_step H9.out H10.out) HB3.out)).2.2.2.2 _⟩
end Go.Proofs.YtpldcikmlpegpaaDoor.PB
end
section
namespace Go.Proofs.YtpldcikmlpegpaaDoor.Plain
open Go.RowKit Go.Proofs.YtpldcikmlpegpaaDoor.PB
abbrev Ly := S48
@[ext] theorem Ly.ext' {a b : Ly} (h0 : a.f0 = b.f0) (h1 : a.f1 = b.f1) (h2 : a.f2 = b.f2) : a = b := by
  cases a; cases b; simp_all
def Fit (l : Ly) : Prop := 0 ≤ l.f0 ∧ 0 ≤ l.f1 ∧ l.f1 ≤ l.f0 / 20 ∧ 0 ≤ l.f2
def Fits (ls : List Ly) : Prop := ∀ l ∈ ls, Fit l
theorem Fits.nil : Fits [] := by intro l h; cases h
theorem Fits.cons {l : Ly} {ls : List Ly} (h : Fit l) (hs : Fits ls) : Fits (l :: ls) := by
  intro x hx
  rcases List.mem_cons.mp hx with rfl | hx
  · exact h
  · exact hs x hx
theorem Fits.head {l : Ly} {ls : List Ly} (h : Fits (l :: ls)) : Fit l := h l List.mem_cons_self
theorem Fits.tail {l : Ly} {ls : List Ly} (h : Fits (l :: ls)) : Fits ls := fun x hx => h x (List.mem_cons_of_mem _ hx)
def water : List Ly → Int
  | [] => 0
  | l :: ls => l.f0 + l.f1 + water ls
def cold : List Ly → Int
  | [] => 0
  | l :: ls => l.f2 + cold ls
theorem water_nonneg {ls : List Ly} (h : Fits ls) : 0 ≤ water ls := by
  induction ls with
  | nil => exact Int.le_refl _
  | cons l ls ih =>
    have := ih h.tail
    obtain ⟨a, b, c, d⟩ := h.head
    simp only [water]
    omega
theorem cold_nonneg {ls : List Ly} (h : Fits ls) : 0 ≤ cold ls := by
  induction ls with
  | nil => exact Int.le_refl _
  | cons l ls ih =>
    have := ih h.tail
    obtain ⟨a, b, c, d⟩ := h.head
    simp only [cold]
    omega
def into (l : Ly) (m : Int) : Ly × Int :=
  let fr := min m l.f2
  let kept := min (m - fr) ((l.f0 + fr) / 20 - l.f1)
  (⟨l.f0 + fr, l.f1 + kept, l.f2 - fr⟩, m - fr - kept)
def flow : List Ly → Int → List Ly × Int
  | [], m => ([], m)
  | l :: ls, m => if 0 < m then ((into l m).1 :: (flow ls (into l m).2).1, (flow ls (into l m).2).2) else (l :: ls, m)
theorem into_fit {l : Ly} {m : Int} (h : Fit l) (hm : 0 ≤ m) : Fit (into l m).1 ∧ 0 ≤ (into l m).2 := by
  obtain ⟨a, b, c, d⟩ := h
  simp only [into, Fit]
  omega
theorem into_water (l : Ly) (m : Int) : (into l m).1.f0 + (into l m).1.f1 + (into l m).2 = l.f0 + l.f1 + m := by
  simp only [into]; omega
theorem into_cold {l : Ly} {m : Int} (h : Fit l) (hm : 0 ≤ m) : (into l m).1.f2 ≤ l.f2 ∧ l.f0 ≤ (into l m).1.f0 := by
  obtain ⟨a, b, c, d⟩ := h
  simp only [into]
  omega
theorem flow_fit {ls : List Ly} : ∀ {m : Int}, Fits ls → 0 ≤ m → Fits (flow ls m).1 ∧ 0 ≤ (flow ls m).2 := by
  induction ls with
  | nil => intro m h hm; exact ⟨Fits.nil, hm⟩
  | cons l ls ih =>
    intro m h hm
    simp only [flow]
    split
    · obtain ⟨f, r⟩ := into_fit h.head hm
      obtain ⟨g, s⟩ := ih h.tail r
      exact ⟨Fits.cons f g, s⟩
    · exact ⟨h, hm⟩
theorem flow_water (ls : List Ly) : ∀ (m : Int), water (flow ls m).1 + (flow ls m).2 = water ls + m := by
  induction ls with
  | nil => intro m; simp [flow, water]
  | cons l ls ih =>
    intro m
    simp only [flow]
    split
    · have := ih (into l m).2
      have := into_water l m
      simp only [water]
      omega
    · simp only [water]
theorem flow_cold {ls : List Ly} : ∀ {m : Int}, Fits ls → 0 ≤ m → cold (flow ls m).1 ≤ cold ls := by
  induction ls with
  | nil => intro m h hm; exact Int.le_refl _
  | cons l ls ih =>
    intro m h hm
    simp only [flow]
    split
    · have := ih h.tail (into_fit h.head hm).2
      have := (into_cold h.head hm).1
      simp only [cold]
      omega
    · exact Int.le_refl _
theorem flow_length (ls : List Ly) : ∀ (m : Int), (flow ls m).1.length = ls.length := by
  induction ls with
  | nil => intro m; rfl
  | cons l ls ih =>
    intro m
    simp only [flow]
    split
    · simp [ih]
    · rfl
end Go.Proofs.YtpldcikmlpegpaaDoor.Plain
end
section
namespace Go.Proofs.YtpldcikmlpegpaaDoor.Plain
open Go.RowKit Go.Proofs.YtpldcikmlpegpaaDoor.PB
def lose1 (l : Ly) (ls : List Ly) (more : Int) : List Ly × Int :=
  let wet := min (l.f1 + more) ((l.f0 - 1) / 20)
  let r := flow ls (l.f1 + more - wet)
  if l.f0 - 1 = 0 then r else (⟨l.f0 - 1, wet, l.f2⟩ :: r.1, r.2)
def vanish1 : List Ly → List Ly × Int
  | [] => ([], 0)
  | l :: ls => lose1 l ls 0
def melt1 : List Ly → List Ly × Int
  | [] => ([], 0)
  | l :: ls => if 0 < l.f2 then (⟨l.f0, l.f1, l.f2 - 1⟩ :: ls, 0) else lose1 l ls 1
def times (f : List Ly → List Ly × Int) : Nat → List Ly → List Ly × Int × Int
  | 0, L => (L, 0, 0)
  | _ + 1, [] => ([], 0, 0)
  | n + 1, l :: ls => ((times f n (f (l :: ls)).1).1, (f (l :: ls)).2 + (times f n (f (l :: ls)).1).2.1, 1 + (times f n (f (l :: ls)).1).2.2)
def Live (ls : List Ly) : Prop := ∀ l ∈ ls, Fit l ∧ 1 ≤ l.f0
theorem Live.fits {ls : List Ly} (h : Live ls) : Fits ls := fun l hl => (h l hl).1
theorem Live.nil : Live [] := by intro l h; cases h
theorem Live.cons {l : Ly} {ls : List Ly} (h : Fit l) (h1 : 1 ≤ l.f0) (hs : Live ls) : Live (l :: ls) := by
  intro x hx
  rcases List.mem_cons.mp hx with rfl | hx
  · exact ⟨h, h1⟩
  · exact hs x hx
theorem Live.head {l : Ly} {ls : List Ly} (h : Live (l :: ls)) : Fit l ∧ 1 ≤ l.f0 := h l List.mem_cons_self
theorem Live.tail {l : Ly} {ls : List Ly} (h : Live (l :: ls)) : Live ls := fun x hx => h x (List.mem_cons_of_mem _ hx)
theorem flow_live {ls : List Ly} : ∀ {m : Int}, Live ls → 0 ≤ m → Live (flow ls m).1 := by
  induction ls with
  | nil => intro m h hm; exact Live.nil
  | cons l ls ih =>
    intro m h hm
    simp only [flow]
    split
    · obtain ⟨f, r⟩ := into_fit h.head.1 hm
      have := (into_cold h.head.1 hm).2
      exact Live.cons f (by have := h.head.2; omega) (ih h.tail r)
    · exact h
theorem lose1_rest {l : Ly} {more : Int} (h : Fit l) (h1 : 1 ≤ l.f0) (hm : 0 ≤ more) : 0 ≤ l.f1 + more - min (l.f1 + more) ((l.f0 - 1) / 20) ∧ 0 ≤ min (l.f1 + more) ((l.f0 - 1) / 20) := by
  obtain ⟨a, b, c, d⟩ := h
  omega
theorem lose1_live {l : Ly} {ls : List Ly} {more : Int} (h : Live (l :: ls)) (hm : 0 ≤ more) : Live (lose1 l ls more).1 ∧ 0 ≤ (lose1 l ls more).2 := by
  obtain ⟨f, h1⟩ := h.head
  obtain ⟨r0, w0⟩ := lose1_rest f h1 hm
  have g := flow_fit h.tail.fits r0
  have g' := flow_live h.tail r0
  simp only [lose1]
  split
  · exact ⟨g', g.2⟩
  · refine ⟨Live.cons ?_ ?_ g', g.2⟩
    · obtain ⟨a, b, c, d⟩ := f
      simp only [Fit]
      omega
    · dsimp only
      omega
theorem lose1_water {l : Ly} {ls : List Ly} {more : Int} (h : Live (l :: ls)) (hm : 0 ≤ more) : water (lose1 l ls more).1 + (lose1 l ls more).2 = water (l :: ls) - 1 + more := by
  obtain ⟨f, h1⟩ := h.head
  have g := flow_water ls (l.f1 + more - min (l.f1 + more) ((l.f0 - 1) / 20))
  obtain ⟨a, b, c, d⟩ := f
  simp only [lose1]
  split
  · simp only [water]
    omega
  · simp only [water]
    omega
theorem lose1_cold {l : Ly} {ls : List Ly} {more : Int} (h : Live (l :: ls)) (hm : 0 ≤ more) : cold (lose1 l ls more).1 ≤ cold (l :: ls) := by
  obtain ⟨f, h1⟩ := h.head
  obtain ⟨r0, w0⟩ := lose1_rest f h1 hm
  have g := flow_cold h.tail.fits r0
  obtain ⟨a, b, c, d⟩ := f
  simp only [lose1]
  split
  · simp only [cold]; omega
  · simp only [cold]; omega
structure Round (f : List Ly → List Ly × Int) (d : Int) : Prop where
  live : ∀ {l ls}, Live (l :: ls) → Live (f (l :: ls)).1 ∧ 0 ≤ (f (l :: ls)).2
  water : ∀ {l ls}, Live (l :: ls) → water (f (l :: ls)).1 + (f (l :: ls)).2 + d = water (l :: ls)
  cold : ∀ {l ls}, Live (l :: ls) → cold (f (l :: ls)).1 ≤ cold (l :: ls)
  len : ∀ {l ls}, Live (l :: ls) → (f (l :: ls)).1.length ≤ (l :: ls).length
theorem lose1_len (l : Ly) (ls : List Ly) (more : Int) : (lose1 l ls more).1.length ≤ (l :: ls).length := by
  simp only [lose1]
  split <;> simp [flow_length]
theorem vanish_round : Round vanish1 1 where
  live h := lose1_live h (Int.le_refl _)
  water h := by have := lose1_water h (Int.le_refl 0); simp only [vanish1]; omega
  cold h := lose1_cold h (Int.le_refl _)
  len _ := lose1_len _ _ _
theorem melt_round : Round melt1 0 where
  live {l ls} h := by
    simp only [melt1]
    split
    · rename_i h2
      obtain ⟨⟨a, b, c, d⟩, h1⟩ := h.head
      exact ⟨Live.cons (by simp only [Fit]; omega) h1 h.tail, Int.le_refl _⟩
    · exact lose1_live h (by omega)
  water {l ls} h := by
    simp only [melt1]
    split
    · simp only [water]; omega
    · have := lose1_water h (show (0 : Int) ≤ 1 by omega); omega
  cold {l ls} h := by
    simp only [melt1]
    split
    · simp only [cold]; omega
    · exact lose1_cold h (by omega)
  len {l ls} h := by
    simp only [melt1]
    split
    · simp
    · exact lose1_len _ _ _
section
variable {f : List Ly → List Ly × Int} {d : Int}
end
def freezes : List Ly → Int → List Ly × Int
  | [], m => ([], m)
  | l :: ls, m => (⟨l.f0 + min m l.f1, l.f1 - min m l.f1, l.f2⟩ :: (freezes ls (m - min m l.f1)).1, (freezes ls (m - min m l.f1)).2)
def chill : List Ly → Int → List Ly
  | [], _ => []
  | l :: ls, m => ⟨l.f0, l.f1, l.f2 + m⟩ :: ls
def freeze (ls : List Ly) (m : Int) : List Ly := chill (freezes ls m).1 (freezes ls m).2
theorem freezes_fit {ls : List Ly} : ∀ {m : Int}, Live ls → 0 ≤ m → Live (freezes ls m).1 ∧ 0 ≤ (freezes ls m).2 ∧ (freezes ls m).2 ≤ m ∧ water (freezes ls m).1 = water ls ∧ cold (freezes ls m).1 = cold ls ∧ (freezes ls m).1.length = ls.length := by
  induction ls with
  | nil => intro m h hm; exact ⟨Live.nil, hm, Int.le_refl _, rfl, rfl, rfl⟩
  | cons l ls ih =>
    intro m h hm
    obtain ⟨⟨a, b, c, d⟩, h1⟩ := h.head
    obtain ⟨i1, i2, i3, i4, i5, i6⟩ := ih (m := m - min m l.f1) h.tail (by omega)
    simp only [freezes]
    refine ⟨Live.cons ?_ ?_ i1, i2, by omega, ?_, ?_, ?_⟩
    · simp only [Fit]; omega
    · dsimp only; omega
    · simp only [water]; omega
    · simp only [cold]; omega
    · simp [i6]
end Go.Proofs.YtpldcikmlpegpaaDoor.Plain
end
section
namespace Go.Proofs.YtpldcikmlpegpaaDoor.Plain
open Go.RowKit Go.Proofs.YtpldcikmlpegpaaDoor.PB
theorem wr (x : Int) (h : -9223372036854775808 ≤ x ∧ x ≤ 9223372036854775807) : wrap64 x = x := by
  unfold wrap64
  omega
def Right (l : Ly) : Prop := 1 ≤ l.f0 ∧ l.f0 ≤ 65536 ∧ 0 ≤ l.f2 ∧ l.f2 ≤ 65536 ∧ 0 ≤ l.f1 ∧ l.f1 ≤ l.f0 / 20 ∧ (l.f1 = 0 ∨ l.f2 = 0)
instance (l : Ly) : Decidable (Right l) := inferInstanceAs (Decidable (_ ∧ _))
def Rights (ls : List Ly) : Prop := ∀ l ∈ ls, Right l
instance (ls : List Ly) : Decidable (Rights ls) := inferInstanceAs (Decidable (∀ l ∈ ls, Right l))
def Valid (ls : List Ly) : Prop := ls.length ≤ 64 ∧ Rights ls ∧ water ls ≤ 65536 ∧ cold ls ≤ 65536
instance (ls : List Ly) : Decidable (Valid ls) := inferInstanceAs (Decidable (_ ∧ _))
def checkE (ls : List Ly) : Int := if Valid ls then 0 else 20
theorem Right.live {l : Ly} (h : Right l) : Fit l ∧ 1 ≤ l.f0 := by
  obtain ⟨a, b, c, d, e, f, g⟩ := h
  unfold Fit
  omega
theorem Rights.live {ls : List Ly} (h : Rights ls) : Live ls := fun l hl => (h l hl).live
theorem Rights.head {l : Ly} {ls : List Ly} (h : Rights (l :: ls)) : Right l := h l List.mem_cons_self
theorem Rights.tail {l : Ly} {ls : List Ly} (h : Rights (l :: ls)) : Rights ls := fun x hx => h x (List.mem_cons_of_mem _ hx)
theorem Valid.live {ls : List Ly} (h : Valid ls) : Live ls := h.2.1.live
theorem from_eq (a b c : Int) : pack_from.f a b c = some (decide (b ≤ a ∧ a ≤ c)) := by
  unfold pack_from.f
  by_cases h : a ≥ b
  · rw [if_pos h]; congr 1; simp; omega
  · rw [if_neg h]; congr 1; symm; simp; omega
theorem some_true {p : Prop} [Decidable p] (h : p) : (some true : Option Bool) = some (decide p) := by rw [decide_eq_true h]
theorem some_false {p : Prop} [Decidable p] (h : ¬ p) : (some false : Option Bool) = some (decide p) := by rw [decide_eq_false h]
theorem right_eq (a b c : Int) : pack_right.f a b c = some (decide (Right ⟨a, b, c⟩)) := by
  unfold pack_right.f
  simp only [from_eq, Option.bind_some, pack_hold.f, decide_eq_true_eq]
  by_cases h1 : 1 ≤ a ∧ a ≤ 65536
  · have ht : wrap64 (Int.tdiv a 20) = a / 20 := by rw [Int.tdiv_eq_ediv_of_nonneg (by omega), wr _ (by omega)]
    rw [if_pos h1]
    by_cases h2 : 0 ≤ c ∧ c ≤ 65536
    · rw [if_pos h2, ht]
      by_cases h3 : 0 ≤ b ∧ b ≤ a / 20
      · rw [if_pos h3]
        by_cases h4 : b = 0
        · rw [if_pos h4]; exact some_true ⟨h1.1, h1.2, h2.1, h2.2, h3.1, h3.2, .inl h4⟩
        · rw [if_neg h4]
          by_cases h5 : c = 0
          · rw [show (c == 0) = true by simp [h5]]; exact some_true ⟨h1.1, h1.2, h2.1, h2.2, h3.1, h3.2, .inr h5⟩
          · rw [show (c == 0) = false by simp [h5]]; exact some_false (fun h => h.2.2.2.2.2.2.elim h4 h5)
      · rw [if_neg h3]; exact some_false (fun h => h3 ⟨h.2.2.2.2.1, h.2.2.2.2.2.1⟩)
    · rw [if_neg h2]; exact some_false (fun h => h2 ⟨h.2.2.1, h.2.2.2.1⟩)
  · rw [if_neg h1]; exact some_false (fun h => h1 ⟨h.1, h.2.1⟩)
theorem rd_drop {ls : List Ly} {i : Nat} (h : i < ls.length) : ls.drop i = rd_T48 ls (i : Int) :: ls.drop (i + 1) := by
  rw [List.drop_eq_getElem_cons h]
  congr 1
  simp [rd_T48, List.getD_eq_getElem?_getD, h]
theorem sums_loop (ls : List Ly) (hr : Rights ls) (hl : ls.length ≤ 128) : ∀ (d k i : Nat) (w c : Int), i + d = ls.length → d < k → 0 ≤ w → w ≤ 131072 * (i : Int) → 0 ≤ c → c ≤ 65536 * (i : Int) →
    pack_sums.l0 k w c ls (ls.length : Int) (i : Int) = some (w + water (ls.drop i), c + cold (ls.drop i)) := by
  intro d
  induction d with
  | zero =>
    intro k i w c hi hk _ _ _ _
    obtain ⟨k, rfl⟩ : ∃ j, k = j + 1 := ⟨k - 1, by omega⟩
    unfold pack_sums.l0
    rw [if_neg (by omega), List.drop_eq_nil_of_le (by omega)]
    simp [water, cold]
  | succ d ih =>
    intro k i w c hi hk h0 h1 h2 h3
    obtain ⟨k, rfl⟩ : ∃ j, k = j + 1 := ⟨k - 1, by omega⟩
    have hm : Right (rd_T48 ls (i : Int)) := hr _ (by
      have : rd_T48 ls (i : Int) ∈ ls.drop i := by rw [rd_drop (by omega)]; exact List.mem_cons_self
      exact List.mem_of_mem_drop this)
    obtain ⟨a, b, cc, dd, e, f, g⟩ := hm
    unfold pack_sums.l0
    rw [if_pos (by omega), if_pos (by omega), if_pos (by omega)]
    rw [rd_drop (show i < ls.length by omega)]
    simp only [water, cold]
    rw [wr ((rd_T48 ls (i : Int)).f0 + _) (by omega), wr (w + _) (by omega), wr (c + _) (by omega), wr ((i : Int) + 1) (by omega)]
    have := ih k (i + 1) (w + ((rd_T48 ls (i : Int)).f0 + (rd_T48 ls (i : Int)).f1)) (c + (rd_T48 ls (i : Int)).f2) (by omega) (by omega) (by omega) (by push_cast; omega) (by omega) (by push_cast; omega)
    push_cast at this
    rw [this]
    congr 2 <;> omega
theorem sums_eq {k : Nat} {ls : List Ly} (hr : Rights ls) (hl : ls.length ≤ 128) (hk : ls.length < k) : pack_sums.f k ls = some (water ls, cold ls) := by
  unfold pack_sums.f
  have := sums_loop ls hr hl ls.length k 0 0 0 (by omega) hk (by omega) (by omega) (by omega) (by omega)
  simpa using this
theorem check_loop (ls : List Ly) (hl : ls.length ≤ 64) : ∀ (d k i : Nat), i + d = ls.length → d + 65 < k → Rights (ls.take i) →
    pack_Check.l0 k ls (ls.length : Int) (i : Int) ls = some (checkE ls) := by
  intro d
  induction d with
  | zero =>
    intro k i hi hk h
    obtain ⟨k, rfl⟩ : ∃ j, k = j + 1 := ⟨k - 1, by omega⟩
    rw [List.take_of_length_le (by omega)] at h
    unfold pack_Check.l0
    rw [if_neg (by omega), sums_eq h (by omega) (by omega)]
    simp only [Option.bind_some, checkE]
    by_cases hw : water ls > 65536
    · rw [if_pos hw, if_neg (fun hv : Valid ls => by have := hv.2.2.1; omega)]
    · rw [if_neg hw]
      by_cases hc : cold ls > 65536
      · rw [if_pos hc, if_neg (fun hv : Valid ls => by have := hv.2.2.2; omega)]
      · rw [if_neg hc, if_pos (show Valid ls from ⟨hl, h, by omega, by omega⟩)]
  | succ d ih =>
    intro k i hi hk h
    obtain ⟨k, rfl⟩ : ∃ j, k = j + 1 := ⟨k - 1, by omega⟩
    unfold pack_Check.l0
    rw [if_pos (by omega), if_pos (by omega), if_pos (by omega), right_eq]
    simp only [Option.bind_some, decide_eq_true_eq]
    have hd := rd_drop (show i < ls.length by omega)
    by_cases hr : Right (rd_T48 ls (i : Int))
    · rw [if_pos (by exact hr), wr ((i : Int) + 1) (by omega)]
      have := ih k (i + 1) (by omega) (by omega) (by
        intro x hx
        rw [List.take_add_one] at hx
        rcases List.mem_append.mp hx with hx | hx
        · exact h x hx
        · have e : ls[i]?.toList = [rd_T48 ls (i : Int)] := by
            simp [rd_T48, List.getD_eq_getElem?_getD, show i < ls.length by omega]
          rw [e] at hx
          rw [List.mem_singleton.mp hx]
          exact hr)
      push_cast at this
      exact this
    · rw [if_neg (by exact hr), checkE, if_neg]
      intro hv
      exact hr (hv.2.1 _ (by
        have : rd_T48 ls (i : Int) ∈ ls.drop i := by rw [hd]; exact List.mem_cons_self
        exact List.mem_of_mem_drop this))
theorem check_eq {k : Nat} (hk : 130 ≤ k) (ls : List Ly) : pack_Check.f k ls = some (checkE ls) := by
  unfold pack_Check.f
  by_cases h : (ls.length : Int) > 64
  · rw [if_pos h, checkE, if_neg (by rintro ⟨h1, _⟩; omega)]
  · rw [if_neg h]
    exact check_loop ls (by omega) ls.length k 0 (by omega) (by omega) (by intro x hx; simp at hx)
theorem checkE_zero {ls : List Ly} : checkE ls = 0 ↔ Valid ls := by
  unfold checkE
  split <;> simp_all
theorem checkE_pos {ls : List Ly} (h : Valid ls) : checkE ls = 0 := checkE_zero.2 h
theorem checkE_neg {ls : List Ly} (h : ¬ Valid ls) : checkE ls = 20 := if_neg h
instance : DecidableEq Ly := fun a b => decidable_of_iff (a.f0 = b.f0 ∧ a.f1 = b.f1 ∧ a.f2 = b.f2) ⟨fun h => Ly.ext' h.1 h.2.1 h.2.2, fun h => by rw [h]; exact ⟨rfl, rfl, rfl⟩⟩
theorem same_loop (xs ys : List Ly) (hl : xs.length = ys.length) (h64 : xs.length ≤ 4096) : ∀ (d k i : Nat), i + d = xs.length → d < k → xs.take i = ys.take i →
    snowlineref02_Same.l0 k (i : Int) xs ys = some (decide (xs = ys)) := by
  intro d
  induction d with
  | zero =>
    intro k i hi hk h
    obtain ⟨k, rfl⟩ : ∃ j, k = j + 1 := ⟨k - 1, by omega⟩
    rw [List.take_of_length_le (by omega), List.take_of_length_le (by omega)] at h
    unfold snowlineref02_Same.l0
    rw [if_neg (by omega)]
    exact some_true h
  | succ d ih =>
    intro k i hi hk h
    obtain ⟨k, rfl⟩ : ∃ j, k = j + 1 := ⟨k - 1, by omega⟩
    unfold snowlineref02_Same.l0
    rw [if_pos (by omega), if_pos (by omega), if_pos (by omega)]
    have hx := rd_drop (show i < xs.length by omega)
    have hy := rd_drop (show i < ys.length by omega)
    by_cases hr : rd_T48 xs (i : Int) = rd_T48 ys (i : Int)
    · rw [hr]
      simp only [BEq.rfl, Bool.not_true, Bool.or_self]
      rw [if_neg (by simp), wr ((i : Int) + 1) (by omega)]
      have := ih k (i + 1) (by omega) (by omega) (by
        have e : ∀ (zs : List Ly), i < zs.length → zs[i]?.toList = [rd_T48 zs (i : Int)] := by
          intro zs hz
          simp [rd_T48, List.getD_eq_getElem?_getD, hz]
        rw [List.take_add_one, List.take_add_one, h, e xs (by omega), e ys (by omega), hr])
      push_cast at this
      exact this
    · rw [if_pos]
      · refine some_false ?_
        rintro rfl
        exact hr rfl
      · by_cases h0 : (rd_T48 xs (i : Int)).f0 = (rd_T48 ys (i : Int)).f0 <;> by_cases h1 : (rd_T48 xs (i : Int)).f1 = (rd_T48 ys (i : Int)).f1 <;> by_cases h2 : (rd_T48 xs (i : Int)).f2 = (rd_T48 ys (i : Int)).f2 <;> simp [h0, h1, h2]
        exact hr (Ly.ext' h0 h1 h2)
theorem same_eq {k : Nat} {xs ys : List Ly} (h64 : xs.length ≤ 4096) (hk : xs.length < k) : snowlineref02_Same.f k xs ys = some (decide (xs = ys)) := by
  unfold snowlineref02_Same.f
  by_cases h : (xs.length : Int) = (ys.length : Int)
  · rw [if_pos h]
    exact same_loop xs ys (by omega) h64 xs.length k 0 (by omega) hk rfl
  · rw [if_neg h]
    refine some_false ?_
    rintro rfl
    exact h rfl
end Go.Proofs.YtpldcikmlpegpaaDoor.Plain
end
section
namespace Go.Proofs.YtpldcikmlpegpaaDoor.Plain
open Go.RowKit Go.Proofs.YtpldcikmlpegpaaDoor.PB Go.Proofs.YtpldcikmlpegpaaDoor.Col Go.Proofs.YtpldcikmlpegpaaDoorW.PrintWords Go.Proofs.YtpldcikmlpegpaaDoorW.PrintMore
theorem mn_min (a b : Int) : mn a b = min a b := by unfold mn; split <;> omega
def St (c : C) (n : Nat) (L : List Ly) (o t : Int) : Prop :=
  c.n = n ∧ c.out = o ∧ c.taken = t ∧ ∃ pre post, c.at_ = pre ++ L ++ post ∧ pre.length = c.top ∧ c.top + L.length = n
theorem St.live {c : C} {n : Nat} {L : List Ly} {o t : Int} (h : St c n L o t) : c.live = L := by
  obtain ⟨h1, h2, h3, pre, post, h4, h5, h6⟩ := h
  unfold C.live
  rw [h4, ← h5, List.append_assoc, List.drop_left, show c.n - pre.length = L.length by omega, List.take_left]
theorem st_of (l : List Ly) : St (C.of l) (l.length + 1) l 0 0 :=
  ⟨rfl, rfl, rfl, [z48], List.replicate (64 - l.length) z48, rfl, rfl, by show 1 + l.length = _; omega⟩
theorem stepW_into {l : Ly} {m : Int} (h : Fit l) (hm : 0 ≤ m) (hw : l.f0 + l.f1 + m ≤ 1099511627776) (hc : l.f2 ≤ 1099511627776) : stepW l m = into l m := by
  obtain ⟨a, b, c, d⟩ := h
  have h0 : 0 ≤ l.f0 + min m l.f2 := by omega
  unfold stepW into
  simp only [mn_min]
  rw [wr (l.f0 + min m l.f2) (by omega), Int.tdiv_eq_ediv_of_nonneg h0, wr (m - min m l.f2) (by omega), wr ((l.f0 + min m l.f2) / 20) (by omega), wr ((l.f0 + min m l.f2) / 20 - l.f1) (by omega)]
  rw [wr (l.f1 + _) (by omega), wr (l.f2 - _) (by omega), wr (m - min m l.f2 - _) (by omega)]
theorem get_mid (pre : List Ly) (l : Ly) (post : List Ly) : (pre ++ l :: post).getD pre.length z48 = l := by
  simp [List.getD_eq_getElem?_getD]
theorem set_mid (pre : List Ly) (l x : Ly) (post : List Ly) : (pre ++ l :: post).set pre.length x = pre ++ x :: post := by
  simp
theorem flowAt_flow : ∀ (L pre post : List Ly) (m : Int), Fits L → 0 ≤ m → water L + m ≤ 1099511627776 → cold L ≤ 1099511627776 →
    flowAt L.length (pre ++ L ++ post) pre.length m = (pre ++ (flow L m).1 ++ post, (flow L m).2) := by
  intro L
  induction L with
  | nil => intro pre post m _ _ _ _; rfl
  | cons l ls ih =>
    intro pre post m hf hm hw hc
    have f := hf.head
    have w0 := water_nonneg hf.tail
    have c0 := cold_nonneg hf.tail
    simp only [water, cold] at hw hc
    obtain ⟨a, b, c, d⟩ := f
    simp only [List.length_cons, flowAt, flow]
    split
    · have e : pre ++ (l :: ls) ++ post = pre ++ l :: (ls ++ post) := by simp
      have hs : stepW l m = into l m := stepW_into hf.head hm (by omega) (by omega)
      rw [e, get_mid, set_mid, hs]
      obtain ⟨g, r⟩ := into_fit hf.head hm
      have hiw := into_water l m
      have hg := g
      obtain ⟨a', b', c', d'⟩ := hg
      have e2 : pre ++ (into l m).1 :: (ls ++ post) = (pre ++ [(into l m).1]) ++ ls ++ post := by simp
      have e3 : pre.length + 1 = (pre ++ [(into l m).1]).length := by simp
      rw [e2, e3, ih (pre ++ [(into l m).1]) post (into l m).2 hf.tail r (by omega) (by omega)]
      simp
    · rfl
theorem c_lose {c : C} {n : Nat} {l : Ly} {ls : List Ly} {o t more : Int} (h : St c n (l :: ls) o t) (hl : Live (l :: ls)) (hm : 0 ≤ more) (hm1 : more ≤ 1) (ho : 0 ≤ o) (hw : water (l :: ls) + o ≤ 549755813888) (hc : cold (l :: ls) ≤ 549755813888) :
    St (c.lose more) n (lose1 l ls more).1 (o + (lose1 l ls more).2) t := by
  obtain ⟨h1, h2, h3, pre, post, h4, h5, h6⟩ := h
  have hk := lose1_live hl hm
  have hkw := lose1_water hl hm
  have wn := water_nonneg hk.1.fits
  obtain ⟨⟨a, b, cc, d⟩, i1⟩ := hl.head
  have w0 := water_nonneg hl.tail.fits
  have c0 := cold_nonneg hl.tail.fits
  have hw' := hw
  have hc' := hc
  simp only [water, cold] at hw' hc'
  obtain ⟨r0, r1⟩ := lose1_rest (more := more) hl.head.1 hl.head.2 hm
  have e : pre ++ (l :: ls) ++ post = pre ++ l :: (ls ++ post) := by simp
  have hd : 0 ≤ l.f0 - 1 := by omega
  have hL : loseW l more = (⟨l.f0 - 1, min (l.f1 + more) ((l.f0 - 1) / 20), l.f2⟩, l.f1 + more - min (l.f1 + more) ((l.f0 - 1) / 20)) := by
    unfold loseW
    simp only [mn_min]
    rw [wr (l.f0 - 1) (by omega), wr (l.f1 + more) (by omega), Int.tdiv_eq_ediv_of_nonneg hd, wr ((l.f0 - 1) / 20) (by omega), wr (l.f1 + more - _) (by omega)]
  have hln : c.n - (c.top + 1) = ls.length := by simp only [List.length_cons] at h6; omega
  have hfl := flowAt_flow ls (pre ++ [⟨l.f0 - 1, min (l.f1 + more) ((l.f0 - 1) / 20), l.f2⟩]) post (l.f1 + more - min (l.f1 + more) ((l.f0 - 1) / 20)) hl.tail.fits r0 (by omega) (by omega)
  have e2 : pre ++ (⟨l.f0 - 1, min (l.f1 + more) ((l.f0 - 1) / 20), l.f2⟩ : Ly) :: (ls ++ post) = (pre ++ [⟨l.f0 - 1, min (l.f1 + more) ((l.f0 - 1) / 20), l.f2⟩]) ++ ls ++ post := by simp
  have e3 : pre.length + 1 = (pre ++ [(⟨l.f0 - 1, min (l.f1 + more) ((l.f0 - 1) / 20), l.f2⟩ : Ly)]).length := by simp
  have hat : c.at_.getD c.top z48 = l := by rw [h4, ← h5, e, get_mid]
  have hset : c.at_.set c.top (loseW l more).1 = (pre ++ [⟨l.f0 - 1, min (l.f1 + more) ((l.f0 - 1) / 20), l.f2⟩]) ++ ls ++ post := by rw [h4, ← h5, e, set_mid, hL, ← e2]
  have hr : flowAt (c.n - (c.top + 1)) (c.at_.set c.top (loseW l more).1) (c.top + 1) (loseW l more).2 = ((pre ++ [⟨l.f0 - 1, min (l.f1 + more) ((l.f0 - 1) / 20), l.f2⟩]) ++ (flow ls (l.f1 + more - min (l.f1 + more) ((l.f0 - 1) / 20))).1 ++ post, (flow ls (l.f1 + more - min (l.f1 + more) ((l.f0 - 1) / 20))).2) := by
    rw [hset, hln, hL, ← h5, e3]
    exact hfl
  have hsnd : (lose1 l ls more).2 = (flow ls (l.f1 + more - min (l.f1 + more) ((l.f0 - 1) / 20))).2 := by
    simp only [lose1]
    split <;> rfl
  have hfl' : (flow ls (l.f1 + more - min (l.f1 + more) ((l.f0 - 1) / 20))).1.length = ls.length := flow_length _ _
  unfold C.lose
  simp only [hat, hr]
  refine ⟨h1, ?_, h3, ?_⟩
  · show wrap64 (c.out + _) = _
    rw [h2, ← hsnd, wr _ (by omega)]
  · rw [wr (l.f0 - 1) (by omega)]
    simp only [lose1]
    simp only [List.length_cons] at h6
    by_cases hz : l.f0 - 1 = 0
    · rw [if_pos hz, if_pos hz]
      exact ⟨_, post, rfl, by simp [h5], by rw [hfl']; omega⟩
    · rw [if_neg hz, if_neg hz]
      exact ⟨pre, post, by simp, h5, by simp only [List.length_cons]; rw [hfl']; omega⟩
theorem c_melt {c : C} {n : Nat} {l : Ly} {ls : List Ly} {o t : Int} (h : St c n (l :: ls) o t) (hl : Live (l :: ls)) (ho : 0 ≤ o) (hw : water (l :: ls) + o ≤ 549755813888) (hc : cold (l :: ls) ≤ 549755813888) :
    St c.melt n (melt1 (l :: ls)).1 (o + (melt1 (l :: ls)).2) (t + 0) := by
  obtain ⟨h1, h2, h3, pre, post, h4, h5, h6⟩ := id h
  have e : pre ++ (l :: ls) ++ post = pre ++ l :: (ls ++ post) := by simp
  have hat : c.at_.getD c.top z48 = l := by rw [h4, ← h5, e, get_mid]
  have c0 := cold_nonneg hl.tail.fits
  have hc' := hc
  simp only [cold] at hc'
  unfold C.melt
  simp only [hat, melt1, Int.add_zero]
  split
  · refine ⟨h1, by simpa using h2, h3, pre, post, ?_, h5, by simpa using h6⟩
    show c.at_.set c.top _ = _
    rw [h4, ← h5, e, set_mid, wr (l.f2 - 1) (by omega)]
    simp
  · exact c_lose h hl (by omega) (by omega) ho hw hc
theorem c_vanish {c : C} {n : Nat} {l : Ly} {ls : List Ly} {o t : Int} (h : St c n (l :: ls) o t) (hl : Live (l :: ls)) (ho : 0 ≤ o) (ht : 0 ≤ t ∧ t ≤ 549755813888) (hw : water (l :: ls) + o ≤ 549755813888) (hc : cold (l :: ls) ≤ 549755813888) :
    St c.vanish n (vanish1 (l :: ls)).1 (o + (vanish1 (l :: ls)).2) (t + 1) := by
  obtain ⟨h1, h2, h3, r⟩ := c_lose h hl (Int.le_refl 0) (by omega) ho hw hc
  unfold C.vanish
  refine ⟨h1, h2, ?_, r⟩
  show wrap64 (c.taken + 1) = _
  rw [h.2.2.1, wr _ (by omega)]
theorem c_times {F : C → C} {f : List Ly → List Ly × Int} {d : Int} (hd : 0 ≤ d ∧ d ≤ 1) (hf : Round f d)
    (hF : ∀ {c : C} {n : Nat} {l : Ly} {ls : List Ly} {o t : Int}, St c n (l :: ls) o t → Live (l :: ls) → 0 ≤ o → 0 ≤ t → t ≤ 549755813888 → water (l :: ls) + o ≤ 549755813888 → cold (l :: ls) ≤ 549755813888 → St (F c) n (f (l :: ls)).1 (o + (f (l :: ls)).2) (t + d)) :
    ∀ (k : Nat) {c : C} {n : Nat} {L : List Ly} {o t : Int}, St c n L o t → Live L → 0 ≤ o → 0 ≤ t → t + (k : Int) ≤ 549755813888 → water L + o ≤ 549755813888 → cold L ≤ 549755813888 →
      St (C.times F k c) n (times f k L).1 (o + (times f k L).2.1) (t + d * (times f k L).2.2) := by
  intro k
  induction k with
  | zero => intro c n L o t h _ _ _ _ _ _; simpa [C.times, times] using h
  | succ k ih =>
    intro c n L o t h hl ho ht htk hw hc
    obtain ⟨h1, h2, h3, pre, post, h4, h5, h6⟩ := id h
    cases L with
    | nil =>
      simp only [List.length_nil] at h6
      simp only [C.times, times]
      rw [if_pos (by omega)]
      simpa using h
    | cons l ls =>
      simp only [List.length_cons] at h6
      simp only [C.times, times]
      rw [if_neg (by omega)]
      have hr := hF h hl ho ht (by omega) hw hc
      obtain ⟨q1, q2⟩ := hf.live hl
      have q3 := hf.water hl
      have q4 := hf.cold hl
      have := ih hr q1 (by omega) (by omega) (by push_cast at htk; omega) (by omega) (by omega)
      have e : o + (f (l :: ls)).2 + (times f k (f (l :: ls)).1).2.1 = o + ((f (l :: ls)).2 + (times f k (f (l :: ls)).1).2.1) := by omega
      have e' : t + d + d * (times f k (f (l :: ls)).1).2.2 = t + d * (1 + (times f k (f (l :: ls)).1).2.2) := by rw [Int.mul_add, Int.mul_one]; omega
      rw [e, e'] at this
      exact this
end Go.Proofs.YtpldcikmlpegpaaDoor.Plain
end
section
namespace Go.Proofs.YtpldcikmlpegpaaDoor.Plain
open Go.RowKit Go.Proofs.YtpldcikmlpegpaaDoor.PB Go.Proofs.YtpldcikmlpegpaaDoor.Col Go.Proofs.YtpldcikmlpegpaaDoorW.PrintWords Go.Proofs.YtpldcikmlpegpaaDoorW.PrintMore
theorem freezeAt_freezes : ∀ (L pre post : List Ly) (m : Int), Fits L → 0 ≤ m → m ≤ 549755813888 → water L ≤ 549755813888 →
    freezeAt L.length (pre ++ L ++ post) pre.length m = (pre ++ (freezes L m).1 ++ post, (freezes L m).2) := by
  intro L
  induction L with
  | nil => intro pre post m _ _ _ _; rfl
  | cons l ls ih =>
    intro pre post m hf hm hmm hw
    have w0 := water_nonneg hf.tail
    simp only [water] at hw
    obtain ⟨a, b, c, d⟩ := hf.head
    simp only [List.length_cons, freezeAt, freezes]
    have e : pre ++ (l :: ls) ++ post = pre ++ l :: (ls ++ post) := by simp
    rw [e, get_mid, set_mid, mn_min, wr (l.f0 + min m l.f1) (by omega), wr (l.f1 - min m l.f1) (by omega), wr (m - min m l.f1) (by omega)]
    have e2 : pre ++ (⟨l.f0 + min m l.f1, l.f1 - min m l.f1, l.f2⟩ : Ly) :: (ls ++ post) = (pre ++ [⟨l.f0 + min m l.f1, l.f1 - min m l.f1, l.f2⟩]) ++ ls ++ post := by simp
    have e3 : pre.length + 1 = (pre ++ [(⟨l.f0 + min m l.f1, l.f1 - min m l.f1, l.f2⟩ : Ly)]).length := by simp
    rw [e2, e3, ih _ post _ hf.tail (by omega) (by omega) (by omega)]
    simp
theorem c_freeze {c : C} {n : Nat} {L : List Ly} {o t m : Int} (h : St c n L o t) (hl : Live L) (hm : 0 ≤ m) (hmm : m ≤ 549755813888) (hw : water L ≤ 549755813888) (hc : cold L ≤ 549755813888) : St (c.freeze m) n (freeze L m) o t := by
  obtain ⟨h1, h2, h3, pre, post, h4, h5, h6⟩ := id h
  have hf := freezeAt_freezes L pre post m hl.fits hm hmm hw
  have hr : freezeAt (c.n - c.top) c.at_ c.top m = (pre ++ (freezes L m).1 ++ post, (freezes L m).2) := by
    rw [h4, ← h5, show c.n - pre.length = L.length by omega]
    exact hf
  obtain ⟨k1, k2, k3, k4, k5, k6⟩ := freezes_fit hl hm
  unfold C.freeze
  simp only [hr]
  cases hL : (freezes L m).1 with
  | nil =>
    have : L.length = 0 := by rw [hL] at k6; simpa using k6.symm
    rw [if_neg (by omega)]
    refine ⟨h1, h2, h3, pre, post, ?_, h5, ?_⟩
    · show pre ++ [] ++ post = _
      simp [freeze, hL, chill]
    · simp [freeze, hL, chill]; omega
  | cons x xs =>
    have hlen : L.length = xs.length + 1 := by rw [hL] at k6; simpa using k6.symm
    rw [if_pos (by omega)]
    have e : pre ++ (x :: xs) ++ post = pre ++ x :: (xs ++ post) := by simp
    have hx : cold (x :: xs) ≤ 549755813888 := by rw [← hL, k5]; exact hc
    have xl : Live (x :: xs) := by rw [← hL]; exact k1
    have c0 := cold_nonneg xl.tail.fits
    obtain ⟨a, b, cc, d⟩ := xl.head.1
    simp only [cold] at hx
    refine ⟨h1, h2, h3, pre, post, ?_, h5, ?_⟩
    · show (pre ++ (x :: xs) ++ post).set c.top _ = _
      rw [e, ← h5, get_mid, set_mid, wr (x.f2 + _) (by omega)]
      simp [freeze, hL, chill]
    · simp only [freeze, hL, chill, List.length_cons]
      omega
theorem c_rain {c : C} {n : Nat} {L : List Ly} {o t m : Int} (h : St c n L o t) (hl : Live L) (ho : 0 ≤ o) (hm : 0 ≤ m) (hw : water L + m + o ≤ 549755813888) (hc : cold L ≤ 549755813888) : St (c.rain m) n (flow L m).1 (o + (flow L m).2) t := by
  obtain ⟨h1, h2, h3, pre, post, h4, h5, h6⟩ := id h
  have hf := flowAt_flow L pre post m hl.fits hm (by omega) (by omega)
  have hr : flowAt (c.n - c.top) c.at_ c.top m = (pre ++ (flow L m).1 ++ post, (flow L m).2) := by
    rw [h4, ← h5, show c.n - pre.length = L.length by omega]
    exact hf
  have k1 := flow_fit hl.fits hm
  have k2 := flow_water L m
  have k3 := water_nonneg k1.1
  have k4 := flow_length L m
  unfold C.rain
  simp only [hr]
  refine ⟨h1, ?_, h3, pre, post, rfl, h5, ?_⟩
  · show wrap64 (c.out + _) = _
    rw [h2, wr _ (by omega)]
  · show c.top + _ = _
    omega
def StepOk (k m cd : Int) : Prop := (1 ≤ k ∧ k ≤ 6) ∧ (0 ≤ m ∧ m ≤ 65536) ∧ (0 ≤ cd ∧ cd ≤ if k = 1 then 65536 else 0)
instance (k m cd : Int) : Decidable (StepOk k m cd) := inferInstanceAs (Decidable (_ ∧ _))
def doStep (L : List Ly) (k m cd : Int) : List Ly × Int :=
  if k = 1 then (if 0 < m then (⟨m, 0, cd⟩ :: L, 0) else (L, 0)) else if k = 2 then flow L m
  else if k = 3 then ((times melt1 m.toNat L).1, (times melt1 m.toNat L).2.1)
  else if k = 4 then (freeze L m, 0) else ((times vanish1 m.toNat L).1, (times vanish1 m.toNat L).2.1)
def stepE (k m cd : Int) : Int := if StepOk k m cd then 0 else 21
def applyP (L : List Ly) (k m cd : Int) : List Ly × Int × Int :=
  if Valid L then (if StepOk k m cd then (if Valid (doStep L k m cd).1 then ((doStep L k m cd).1, (doStep L k m cd).2, 0) else ([], 0, 2)) else ([], 0, 21)) else ([], 0, 20)
theorem step_eq {j : Nat} (k m cd : Int) : pack_CheckStep.f (j + 1) k m cd = some (stepE k m cd) := by
  unfold pack_CheckStep.f stepE
  simp only [pack_CheckStep.j0, from_eq, Option.bind_some, decide_eq_true_eq]
  by_cases h1 : 1 ≤ k ∧ k ≤ 6
  · by_cases h2 : 0 ≤ m ∧ m ≤ 65536
    · by_cases hk : k = 1
      · by_cases h3 : 0 ≤ cd ∧ cd ≤ 65536
        · rw [if_pos hk, if_pos h1, if_pos h2, if_pos h3, if_pos (show StepOk k m cd from ⟨h1, h2, by rw [if_pos hk]; exact h3⟩)]
        · rw [if_pos hk, if_pos h1, if_pos h2, if_neg h3, if_neg (fun h : StepOk k m cd => h3 (by have := h.2.2; rw [if_pos hk] at this; exact this))]
      · by_cases h3 : 0 ≤ cd ∧ cd ≤ 0
        · rw [if_neg hk, if_pos h1, if_pos h2, if_pos h3, if_pos (show StepOk k m cd from ⟨h1, h2, by rw [if_neg hk]; exact h3⟩)]
        · rw [if_neg hk, if_pos h1, if_pos h2, if_neg h3, if_neg (fun h : StepOk k m cd => h3 (by have := h.2.2; rw [if_neg hk] at this; exact this))]
    · rw [if_neg (fun h : StepOk k m cd => h2 h.2.1)]
      split <;> rfl
  · rw [if_neg (fun h : StepOk k m cd => h1 h.1)]
    split <;> rfl
theorem Valid.bounds {L : List Ly} (h : Valid L) : water L + 0 ≤ 549755813888 ∧ cold L ≤ 549755813888 := by
  obtain ⟨_, _, a, b⟩ := h
  omega
theorem step_st {L : List Ly} {k m cd : Int} (hv : Valid L) (hs : StepOk k m cd) : ∃ t, St ((C.of L).step k m cd) (L.length + 1) (doStep L k m cd).1 (doStep L k m cd).2 t := by
  have h0 := st_of L
  obtain ⟨b1, b2⟩ := hv.bounds
  have hl := hv.live
  obtain ⟨hk, hm, hc⟩ := hs
  obtain ⟨_, _, v1, v2⟩ := id hv
  unfold C.step doStep
  by_cases k1 : k = 1
  · rw [if_pos k1, if_pos k1]
    split
    · refine ⟨0, rfl, rfl, rfl, [], List.replicate (64 - L.length) z48, rfl, rfl, ?_⟩
      show 0 + (L.length + 1) = _
      omega
    · exact ⟨0, h0⟩
  · rw [if_neg k1, if_neg k1]
    by_cases k2 : k = 2
    · rw [if_pos k2, if_pos k2]
      have := c_rain h0 hl (Int.le_refl 0) hm.1 (by omega) b2
      exact ⟨0, by simpa using this⟩
    · rw [if_neg k2, if_neg k2]
      by_cases k3 : k = 3
      · rw [if_pos k3, if_pos k3]
        have := c_times (F := C.melt) (d := 0) (by omega) melt_round (fun h hl ho _ _ hw hc => c_melt h hl ho hw hc) m.toNat h0 hl (Int.le_refl 0) (Int.le_refl 0) (by omega) b1 b2
        exact ⟨_, by simpa using this⟩
      · rw [if_neg k3, if_neg k3]
        by_cases k4 : k = 4
        · rw [if_pos k4, if_pos k4]
          exact ⟨0, c_freeze h0 hl hm.1 (by omega) (by omega) b2⟩
        · rw [if_neg k4, if_neg k4, if_pos (by omega)]
          have := c_times (F := C.vanish) (d := 1) (by omega) vanish_round (fun h hl ho ht ht2 hw hc => c_vanish h hl ho ⟨ht, ht2⟩ hw hc) m.toNat h0 hl (Int.le_refl 0) (Int.le_refl 0) (by omega) b1 b2
          exact ⟨_, by simpa using this⟩
theorem apply_eq (L : List Ly) (k m cd : Int) : pack_Apply.f L k m cd = some (applyP L k m cd) := by
  unfold pack_Apply.f applyP
  rw [check_eq (by omega), step_eq (j := 4)]
  simp only [Option.bind_some]
  by_cases hv : Valid L
  · rw [checkE_pos hv, if_pos rfl, if_pos hv]
    unfold stepE
    by_cases hs : StepOk k m cd
    · obtain ⟨t, hst⟩ := step_st hv hs
      rw [if_pos hs, if_pos rfl, if_pos hs, check_eq (by omega), hst.live, hst.2.1]
      simp only [Option.bind_some]
      by_cases hw : Valid (doStep L k m cd).1
      · rw [checkE_pos hw, if_pos rfl, if_pos hw]
      · rw [checkE_neg hw, if_neg (by omega), if_neg hw]
    · rw [if_neg hs, if_neg (by omega), if_neg hs]
  · rw [checkE_neg hv, if_neg (by omega), if_neg hv]
end Go.Proofs.YtpldcikmlpegpaaDoor.Plain
end
section
namespace Go.Proofs.YtpldcikmlpegpaaDoor.Plain
open Go.RowKit Go.Proofs.YtpldcikmlpegpaaDoor.PB Go.Proofs.YtpldcikmlpegpaaDoor.Col Go.Proofs.YtpldcikmlpegpaaDoorW.PrintWords Go.Proofs.YtpldcikmlpegpaaDoorW.PrintMore
def Ev {α : Type} (f : Nat → Option α) (r : α) : Prop := ∃ k0, ∀ k, k0 ≤ k → f k = some r
theorem Ev.pure {α : Type} {f : Nat → Option α} {r : α} (h : ∀ k, f k = some r) : Ev f r := ⟨0, fun k _ => h k⟩
theorem Ev.from {α : Type} {f : Nat → Option α} {r : α} (k0 : Nat) (h : ∀ k, k0 ≤ k → f k = some r) : Ev f r := ⟨k0, h⟩
theorem Ev.step {α : Type} {f g : Nat → Option α} {r : α} (h : ∀ k, f (k + 1) = g k) (hg : Ev g r) : Ev f r := by
  obtain ⟨k0, hk⟩ := hg
  refine ⟨k0 + 1, fun k hle => ?_⟩
  obtain ⟨k, rfl⟩ : ∃ j, k = j + 1 := ⟨k - 1, by omega⟩
  rw [h k, hk k (by omega)]
theorem Ev.bind {α β : Type} {f : Nat → Option α} {g : Nat → α → Option β} {a : α} {r : β} (hf : Ev f a) (hg : Ev (fun k => g k a) r) : Ev (fun k => (f k).bind (g k)) r := by
  obtain ⟨k0, h0⟩ := hf
  obtain ⟨k1, h1⟩ := hg
  exact ⟨max k0 k1, fun k hk => by simp only [h0 k (by omega), Option.bind_some]; exact h1 k (by omega)⟩
theorem Ev.some {α : Type} {f : Nat → Option α} {r : α} (h : Ev f r) : ∃ k, f k = Option.some r := by
  obtain ⟨k0, h0⟩ := h
  exact ⟨k0, h0 k0 (Nat.le_refl _)⟩
end Go.Proofs.YtpldcikmlpegpaaDoor.Plain
end
section
namespace Go.Proofs.YtpldcikmlpegpaaDoor.Plain
open Go.RowKit Go.Proofs.YtpldcikmlpegpaaDoor.PB Go.Proofs.YtpldcikmlpegpaaDoor.Col Go.Proofs.YtpldcikmlpegpaaDoorW.PrintWords Go.Proofs.YtpldcikmlpegpaaDoorW.PrintMore
def room (l : Ly) : Int := l.f2 - l.f1 + (l.f0 + l.f2) / 20
def ready : List Ly → Int
  | [] => 0
  | l :: ls => room l + ready ls
theorem room_bound {l : Ly} (h : Fit l) : 0 ≤ room l ∧ room l ≤ 2 * l.f2 + l.f0 := by
  obtain ⟨a, b, c, d⟩ := h
  unfold room
  omega
theorem ready_loop (ls : List Ly) (hr : Rights ls) (hl : ls.length ≤ 64) : ∀ (d k i : Nat) (s : Int), i + d = ls.length → d < k → 0 ≤ s → s ≤ 262144 * (i : Int) →
    pack_Ready.l0 k s ls (ls.length : Int) (i : Int) = some (s + ready (ls.drop i), 0) := by
  intro d
  induction d with
  | zero =>
    intro k i s hi hk _ _
    obtain ⟨k, rfl⟩ : ∃ j, k = j + 1 := ⟨k - 1, by omega⟩
    unfold pack_Ready.l0
    rw [if_neg (by omega), List.drop_eq_nil_of_le (by omega)]
    simp [ready]
  | succ d ih =>
    intro k i s hi hk h0 h1
    obtain ⟨k, rfl⟩ : ∃ j, k = j + 1 := ⟨k - 1, by omega⟩
    have hm : Right (rd_T48 ls (i : Int)) := hr _ (by
      have : rd_T48 ls (i : Int) ∈ ls.drop i := by rw [rd_drop (by omega)]; exact List.mem_cons_self
      exact List.mem_of_mem_drop this)
    have hrb := room_bound hm.live.1
    obtain ⟨a, b, cc, dd, e, f, g⟩ := hm
    unfold pack_Ready.l0
    rw [if_pos (by omega), if_pos (by omega), if_pos (by omega)]
    rw [rd_drop (show i < ls.length by omega)]
    simp only [ready, pack_hold.f, Option.bind_some]
    have h9 : 0 ≤ (rd_T48 ls (i : Int)).f0 + (rd_T48 ls (i : Int)).f2 := by omega
    rw [wr ((rd_T48 ls (i : Int)).f0 + _) (by omega), Int.tdiv_eq_ediv_of_nonneg h9, wr (((rd_T48 ls (i : Int)).f0 + _) / 20) (by omega), wr ((rd_T48 ls (i : Int)).f2 - _) (by omega), wr (s + _) (by omega), wr (s + _ + _) (by omega), wr ((i : Int) + 1) (by omega)]
    have := ih k (i + 1) (s + ((rd_T48 ls (i : Int)).f2 - (rd_T48 ls (i : Int)).f1) + ((rd_T48 ls (i : Int)).f0 + (rd_T48 ls (i : Int)).f2) / 20) (by omega) (by omega) (by unfold room at hrb; omega) (by unfold room at hrb; push_cast; omega)
    push_cast at this
    rw [this]
    unfold room
    congr 2
    omega
theorem ready_eq {k : Nat} (hk : 130 ≤ k) (L : List Ly) : pack_Ready.f k L = some (if Valid L then (ready L, 0) else (0, 20)) := by
  unfold pack_Ready.f
  rw [check_eq hk]
  simp only [Option.bind_some]
  by_cases hv : Valid L
  · rw [checkE_pos hv, if_pos rfl, if_pos hv]
    have := ready_loop L hv.2.1 hv.1 L.length k 0 0 (by omega) (by have := hv.1; omega) (by omega) (by omega)
    simpa using this
  · rw [checkE_neg hv, if_neg (by omega), if_neg hv]
end Go.Proofs.YtpldcikmlpegpaaDoor.Plain
end
section
namespace Go.Proofs.YtpldcikmlpegpaaDoor.Plain
open Go.RowKit Go.Proofs.YtpldcikmlpegpaaDoor.PB Go.Proofs.YtpldcikmlpegpaaDoorW.PrintWords Go.Proofs.YtpldcikmlpegpaaDoorW.PrintMore
theorem applyP_valid (L : List Ly) (k m cd : Int) : (applyP L k m cd).1.length ≤ 64 := by
  unfold applyP
  split
  · split
    · split
      · rename_i h; exact h.1
      · simp
    · simp
  · simp
end Go.Proofs.YtpldcikmlpegpaaDoor.Plain
end
section
namespace Go.Proofs.YtpldcikmlpegpaaDoor.Plain
open Go.RowKit Go.Proofs.YtpldcikmlpegpaaDoor.PB Go.Proofs.YtpldcikmlpegpaaDoorW.PrintWords Go.Proofs.YtpldcikmlpegpaaDoorW.PrintMore
abbrev Sp := S26
def runP : List Sp → List Ly → List Int → List Ly × List Int × Int
  | [], xs, o => (xs, o, 0)
  | s :: ss, xs, o => if (applyP xs s.f0 s.f1 s.f2).2.2 = 0 then runP ss (applyP xs s.f0 s.f1 s.f2).1 (o ++ [(applyP xs s.f0 s.f1 s.f2).2.1]) else ([], [], (applyP xs s.f0 s.f1 s.f2).2.2)
def runsP (l : List Ly) (ss : List Sp) : List Ly × List Int × Int := if Valid l then (if ss.length ≤ 256 then runP ss l [] else ([], [], 2)) else ([], [], 20)
theorem runW_eq : ∀ (ss : List Sp) (xs : List Ly) (o : List Int), runW ss xs o = some (runP ss xs o)
  | [], _, _ => rfl
  | s :: ss, xs, o => by
    simp only [runW, runP]
    rw [apply_eq]
    simp only [Option.bind_some]
    by_cases h : (applyP xs s.f0 s.f1 s.f2).2.2 = 0
    · rw [if_pos h, if_pos h, runW_eq ss]
    · rw [if_neg h, if_neg h]
theorem run_eq (l : List Ly) (ss : List Sp) : pack_Run.f l ss = some (runsP l ss) := by
  unfold pack_Run.f runsP
  rw [check_eq (by omega)]
  simp only [Option.bind_some]
  by_cases hv : Valid l
  · rw [checkE_pos hv, if_pos rfl, if_pos hv]
    by_cases hn : ss.length ≤ 256
    · rw [if_pos hn, if_pos hn, runW_eq]
    · rw [if_neg hn, if_neg hn]
  · rw [checkE_neg hv, if_neg (by omega), if_neg hv]
theorem runP_len : ∀ (ss : List Sp) (xs : List Ly) (o : List Int), xs.length ≤ 64 → (runP ss xs o).1.length ≤ 64 ∧ (runP ss xs o).2.1.length ≤ o.length + ss.length
  | [], _, _, h => ⟨h, by simp [runP]⟩
  | s :: ss, xs, o, h => by
    simp only [runP]
    split
    · have := runP_len ss (applyP xs s.f0 s.f1 s.f2).1 (o ++ [(applyP xs s.f0 s.f1 s.f2).2.1]) (applyP_valid _ _ _ _)
      refine ⟨this.1, ?_⟩
      have h2 := this.2
      simp only [List.length_append, List.length_cons, List.length_nil] at h2 ⊢
      omega
    · simp
theorem runsP_len (l : List Ly) (ss : List Sp) : (runsP l ss).1.length ≤ 64 ∧ (runsP l ss).2.1.length ≤ 256 := by
  unfold runsP
  split
  · rename_i hv
    split
    · have := runP_len ss l [] hv.1
      simp only [List.length_nil] at this
      omega
    · simp
  · simp
theorem ints_loop (o : List Int) (ho : o.length ≤ 9223372036854775807) : ∀ (d k i : Nat), i + d = o.length → d < k → snowlinelaw02_ints.l0 k o o (i : Int) = some true := by
  intro d
  induction d with
  | zero =>
    intro k i hi hk
    obtain ⟨k, rfl⟩ : ∃ j, k = j + 1 := ⟨k - 1, by omega⟩
    unfold snowlinelaw02_ints.l0
    rw [if_neg (by omega)]
  | succ d ih =>
    intro k i hi hk
    obtain ⟨k, rfl⟩ : ∃ j, k = j + 1 := ⟨k - 1, by omega⟩
    unfold snowlinelaw02_ints.l0
    rw [if_pos (by omega), if_pos (by omega), if_pos (by omega), if_pos rfl, wr _ (by omega)]
    exact ih k (i + 1) (by omega) (by omega)
theorem ints_self {k : Nat} {o : List Int} (ho : o.length ≤ 9223372036854775807) (hk : o.length < k) : snowlinelaw02_ints.f k o o = some true := by
  unfold snowlinelaw02_ints.f
  rw [if_pos rfl]
  exact ints_loop o ho o.length k 0 (by omega) hk
end Go.Proofs.YtpldcikmlpegpaaDoor.Plain
end
section
namespace Go.Proofs.YtpldcikmlpegpaaDoor.PurePackRun
open Go.RowKit Go.Proofs.YtpldcikmlpegpaaDoor.PB Go.Proofs.YtpldcikmlpegpaaDoor.Open Go.Proofs.YtpldcikmlpegpaaDoor.Plain Go.Proofs.YtpldcikmlpegpaaDoorW.PrintWords Go.Proofs.YtpldcikmlpegpaaDoorW.PrintLast Go.Proofs.YtpldcikmlpegpaaDoorW.PrintMore
theorem applyP_ok {L : List Ly} {k m cd : Int} (h : (applyP L k m cd).2.2 = 0) : Valid (applyP L k m cd).1 := by
  unfold applyP at h ⊢
  by_cases h1 : Valid L
  · rw [if_pos h1] at h ⊢
    by_cases h2 : StepOk k m cd
    · rw [if_pos h2] at h ⊢
      by_cases h3 : Valid (doStep L k m cd).1
      · rw [if_pos h3]; exact h3
      · rw [if_neg h3] at h; exact absurd h (by show ¬ (2 : Int) = 0; omega)
    · rw [if_neg h2] at h; exact absurd h (by show ¬ (21 : Int) = 0; omega)
  · rw [if_neg h1] at h; exact absurd h (by show ¬ (20 : Int) = 0; omega)
theorem runP_valid : ∀ (ss : List Sp) (xs : List Ly) (o : List Int), Valid xs → (runP ss xs o).2.2 = 0 → Valid (runP ss xs o).1
  | [], _, _, h, _ => h
  | s :: ss, xs, o, _, h => by
    simp only [runP] at h ⊢
    by_cases h1 : (applyP xs s.f0 s.f1 s.f2).2.2 = 0
    · rw [if_pos h1] at h ⊢
      exact runP_valid ss _ _ (applyP_ok h1) h
    · rw [if_neg h1] at h
      exact absurd h h1
theorem runP_bad : ∀ (ss : List Sp) (xs : List Ly) (o : List Int), (runP ss xs o).2.2 ≠ 0 → runP ss xs o = ([], [], (runP ss xs o).2.2)
  | [], _, _, h => absurd rfl h
  | s :: ss, xs, o, h => by
    simp only [runP] at h ⊢
    by_cases h1 : (applyP xs s.f0 s.f1 s.f2).2.2 = 0
    · rw [if_pos h1] at h ⊢
      exact runP_bad ss _ _ h
    · rw [if_neg h1]
theorem runP_app (tt : List Sp) : ∀ (ss : List Sp) (xs : List Ly) (o : List Int), runP (ss ++ tt) xs o = if (runP ss xs o).2.2 = 0 then runP tt (runP ss xs o).1 (runP ss xs o).2.1 else runP ss xs o
  | [], _, _ => by simp [runP]
  | s :: ss, xs, o => by
    simp only [List.cons_append, runP]
    by_cases h1 : (applyP xs s.f0 s.f1 s.f2).2.2 = 0
    · simp only [if_pos h1]
      exact runP_app tt ss _ _
    · simp only [if_neg h1]
theorem runP_ahead : ∀ (tt : List Sp) (xs : List Ly) (o p : List Int), runP tt xs (o ++ p) = if (runP tt xs p).2.2 = 0 then ((runP tt xs p).1, o ++ (runP tt xs p).2.1, 0) else runP tt xs p
  | [], _, _, _ => by simp [runP]
  | s :: tt, xs, o, p => by
    simp only [runP]
    by_cases h1 : (applyP xs s.f0 s.f1 s.f2).2.2 = 0
    · simp only [if_pos h1, List.append_assoc]
      exact runP_ahead tt _ _ _
    · simp only [if_neg h1]
theorem runs_cut (l : List Ly) (ss : List Sp) (j : Nat) (hn : ss.length ≤ 40) :
    ((runsP l (ss.take j)).2.2 ≠ 0 → runsP l ss = ([], [], (runsP l (ss.take j)).2.2)) ∧
    ((runsP l (ss.take j)).2.2 = 0 → (runsP (runsP l (ss.take j)).1 (ss.drop j)).1 = (runsP l ss).1 ∧ (runsP (runsP l (ss.take j)).1 (ss.drop j)).2.2 = (runsP l ss).2.2 ∧ ((runsP l ss).2.2 = 0 → (runsP l ss).2.1 = (runsP l (ss.take j)).2.1 ++ (runsP (runsP l (ss.take j)).1 (ss.drop j)).2.1)) := by
  by_cases hv : Valid l
  · have e1 : ∀ tt : List Sp, tt.length ≤ 40 → ∀ x, Valid x → runsP x tt = runP tt x [] := fun tt ht x hx => by
      unfold runsP
      rw [if_pos hx, if_pos (by omega)]
    have ht : (ss.take j).length ≤ 40 := by simp; omega
    have hd : (ss.drop j).length ≤ 40 := by simp; omega
    rw [e1 _ ht l hv, e1 _ hn l hv]
    have ha := runP_app (ss.drop j) (ss.take j) l []
    rw [List.take_append_drop] at ha
    refine ⟨fun h => ?_, fun h => ?_⟩
    · rw [ha, if_neg h]
      exact runP_bad _ _ _ h
    · rw [if_pos h] at ha
      have hx := runP_valid _ _ _ hv h
      rw [e1 _ hd _ hx, ha]
      have hb := runP_ahead (ss.drop j) (runP (ss.take j) l []).1 (runP (ss.take j) l []).2.1 []
      rw [List.append_nil] at hb
      rw [hb]
      by_cases h2 : (runP (ss.drop j) (runP (ss.take j) l []).1 []).2.2 = 0
      · rw [if_pos h2]
        exact ⟨rfl, h2, fun _ => rfl⟩
      · rw [if_neg h2]
        exact ⟨rfl, rfl, fun h3 => absurd h3 h2⟩
  · have e1 : ∀ tt : List Sp, runsP l tt = ([], [], 20) := fun tt => by
      unfold runsP
      rw [if_neg hv]
    rw [e1, e1]
    exact ⟨fun _ => rfl, fun h => absurd h (by show ¬ (20 : Int) = 0; omega)⟩
theorem walked (A0 : Option Addr) (c0 : Nat) (l0 : List Ly) (A1 : Option Addr) (c1 : Nat) (l1 : List Sp) (cut : Int) (w : World) (hr0 : Kd.C k48 w A0 l0.length l0) (hc0 : l0.length ≤ c0) (hr1 : Kd.C k26 w A1 l1.length l1) (hc1 : l1.length ≤ c1) (_ : ∀ x ∈ l0, LyI x) (_ : ∀ x ∈ l1, StI x) (_ : i64 cut) (hG : Glob w) :
    Calls Tryd.prog 13 #[.agg #[.slice A0 l0.length c0], .slice A1 l1.length c1, .int .i64 cut] w fun e w' => e = .returned (.bool true) ∧ Below w.heap.size w w' := by
  refine packRun_walk A0 c0 l0 A1 c1 l1 cut (runsP l0 l1).1 (runsP l0 l1).2.1 (runsP l0 l1).2.2 (run_eq l0 l1) (runsP l0 (l1.take cut.toNat)).1 (runsP l0 (l1.take cut.toNat)).2.1 (runsP l0 (l1.take cut.toNat)).2.2 (fun _ => run_eq l0 _) (runsP_len l0 _).2 (fun hn _ hb => ?_) (fun hn _ hb => ?_) w hr0 hc0 hr1 hc1 hG
  · have h1 := (runs_cut l0 l1 cut.toNat hn).1 hb
    rw [h1]
    exact ⟨rfl, rfl, rfl⟩
  · obtain ⟨h1, h2, h3⟩ := (runs_cut l0 l1 cut.toNat hn).2 hb
    refine ⟨(runsP (runsP l0 (l1.take cut.toNat)).1 (l1.drop cut.toNat)).2.1, ?_, (runsP_len _ _).2, ?_, fun ha => ⟨h3 ha, ?_⟩⟩
    · rw [run_eq, ← h1, ← h2]
    · have := (runsP_len l0 l1).1
      rw [same_eq (by omega) (by omega), decide_eq_true rfl]
    · have := (runsP_len l0 l1).2
      exact ints_self (by omega) (by omega)
end Go.Proofs.YtpldcikmlpegpaaDoor.PurePackRun
end
section
namespace Go.Proofs.YtpldcikmlpegpaaDoor.packRun
open Go.ChangeShapes Go.WideShapes Go.ChangeAt Go.RowKit Go.Proofs.YtpldcikmlpegpaaDoor.Open Go.Proofs.YtpldcikmlpegpaaDoor.PB
set_option linter.unusedVariables false
set_option maxRecDepth 100000 in
theorem lifted (os : Os) (started : os.Started) (H : Type) (enc : TypeId × Value → H) :
    ReturnsInHanded {} Tryd.checked os 13 .any (fun w args => (Rows.packRunSpec.pre enc Tryd.prog Tryd.f13 [] false w args ∧ laidMetH Tryd.prog laid3 w) ∧ sizedMet enc Tryd.prog Tryd.f13 (OpenSpec.ofChange Rows.packRunSpec) false w args)
      (Rows.packRunSpec.post enc Tryd.prog Tryd.f13 false true false false) := by
  refine returnsInHanded_of_change_and (C := Tryd.checked) (X := fun w _ => laidMetH Tryd.prog laid3 w) (fun _ _ _ hh h => h.of_heap hh) own started (by kernel_rfl) Tryd.func13
    (ChangeSpec.witness_shaped (enc := enc) (C := Tryd.checked) (os := os) (X := fun w _ => laidMetH Tryd.prog laid3 w) false (World.doorLaid Tryd.prog 400 os) #[.agg #[.slice none 0 0], .slice none 0 0, .int .i64 0] 8 rfl (World.shaped_of_RefB (by kernel_rfl) (by kernel_rfl)) (by kernel_rfl) (by kernel_rfl) (by kernel_rfl) (door_met os _)) ?_
  intro W base args ds gs before hval0 hW _ _ hL _
  have hval : ∀ (j : Nat) t v, Tryd.f13.params[j]? = some t → args[j]? = some v → Value.okWide Tryd.prog W .any base t v := hval0
  have hW' := hW
  obtain ⟨p, q, hA0, hV, rfl, hfz, hnd⟩ := hW
  have hA : DataW.TrodAll enc Tryd.prog W 0 (fun _ => true) true Tryd.f13.params.toList args.toList ds p := hA0
  rw [Tryd.params13] at hA hval
  obtain ⟨v0, vs0, d0, ds0, p0, q0, hargs, rfl, rfl, h0, r0⟩ := trodAll_cons hA
  obtain ⟨v1, vs1, d1, ds1, p1, q1, rfl, rfl, rfl, h1, r1⟩ := trodAll_cons r0
  obtain ⟨v2, vs2, d2, ds2, p2, q2, rfl, rfl, rfl, h2, r2⟩ := trodAll_cons r1
  obtain ⟨rfl, rfl, rfl⟩ := trodAll_nil r2
  obtain rfl : args = #[v0, v1, v2] := by cases args; simp_all
  obtain ⟨rfl, rfl⟩ := trodVars_none hV
  have k0 := h0
  have lt0 : ∀ x ∈ p0, x.block < W.heap.size := by obtain ⟨m, hm⟩ := k0; exact DataW.trod_lt m _ _ _ hm
  obtain ⟨A0, c0, l0, rfl, hl0, hC0, hi0⟩ := open_pack (hval 0 24 v0 rfl rfl) h0
  have k1 := h1
  have lt1 : ∀ x ∈ p1, x.block < W.heap.size := by obtain ⟨m, hm⟩ := k1; exact DataW.trod_lt m _ _ _ hm
  obtain ⟨A1, c1, l1, rfl, hl1, hC1, hi1⟩ := open_steps (hval 1 57 v1 rfl rfl) h1
  have k2 := h2
  have lt2 : ∀ x ∈ p2, x.block < W.heap.size := by obtain ⟨m, hm⟩ := k2; exact DataW.trod_lt m _ _ _ hm
  obtain ⟨a2, rfl, _, _, w2⟩ := open_int Tryd.underlying3 (hval 2 3 v2 rfl rfl) h2
  clear hA0 hval0
  refine (PurePackRun.walked A0 c0 l0 A1 c1 l1 a2 W hC0 hl0 hC1 hl1 hi0 hi1 w2 (glob_of hL)).mono ?_
  rintro e W' ⟨rfl, bel⟩
  exact ⟨_, rfl, _, _, _, [], _, [], hW', trodAll_mk1 (shut_bool Tryd.underlying4 _), (trodAll_cons_mk (Below.trod laidOut (by kernel_rfl) (of_decide_eq_true (by kernel_rfl)) k0 bel lt0) (trodAll_cons_mk (Below.trod laidOut (by kernel_rfl) (of_decide_eq_true (by kernel_rfl)) k1 bel lt1) (trodAll_cons_mk (Below.trod laidOut (by kernel_rfl) (of_decide_eq_true (by kernel_rfl)) k2 bel lt2) trodAll_mk0))), rfl, bel.frame _, fun h => by cases h⟩
theorem over : Rows.PackRunSaid :=
  OpenClaim.holds_of_wide 13 Tryd.f13 rfl rfl rfl rfl rfl rfl rfl ⟨rfl, rfl, rfl, rfl, rfl⟩ rfl rfl rfl rfl rfl (by kernel_rfl) Tryd.func13 (by kernel_rfl)
    (of_decide_eq_true (by kernel_rfl)) (by unfold Func.isWrapper; first | (rw [if_pos (by decide +kernel)]; kernel_rfl) | (rw [if_neg (by decide +kernel)]; exact ⟨rfl, rfl⟩))
    (fun os started H enc _ => lifted os started H enc)
theorem card_holds : Rows.PackRunCardSaid :=
  Claim7.holds_tied_plain_at .later [] [.data, .data, .data] true (true, "e4590a7662fcc404b2e76501190c3f3756a1f45f85c3a8ba53dbb8ae7a261990") false
    over (fun _ h => by cases h) (by kernel_rfl) (fun _ h => by cases h) packRun_row_tie rfl ⟨rfl, rfl⟩ (by kernel_rfl) rfl
    (fun f fn hf hfn => by
      obtain rfl : f = 13 := Option.some.inj ((show Tryd.prog.funcNamed "snowline/snowlinelaw02.PackRun" = some 13 by kernel_rfl).symm.trans hf) |>.symm
      obtain rfl : fn = Tryd.f13 := (Option.some.inj (Tryd.func13.symm.trans hfn)).symm
      exact ⟨by kernel_rfl, fun j t ht => by
        rw [Tryd.params13] at ht
        have hm : t ∈ [24, 57, 3] := by simpa using Array.mem_of_getElem? ht
        have hall : ([24, 57, 3].all fun u => !Tryd.prog.wantsStandIn u) = true := by kernel_rfl
        exact (show Tryd.prog.wantsStandIn t = false by simpa using List.all_eq_true.1 hall t hm)⟩)
    (by kernel_rfl)
end Go.Proofs.YtpldcikmlpegpaaDoor.packRun
end
