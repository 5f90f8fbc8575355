/-
The tied card of the law PackApplies of snowlinelaw02 holds: it answers true for every pack and every step, and changes nothing.
-/
import Derived.KernelRfl
import Derived.Test.YtpldcikmlpegpaaDoorTie
import Derived.Test.YtpldcikmlpegpaaDoorCards
import Derived.SevenTiedAt
import Derived.Test.YtpldcikmlpegpaaDoorPackAppliesA1
import Derived.Test.YtpldcikmlpegpaaDoorPackAppliesA2
import Derived.Test.YtpldcikmlpegpaaDoorPackAppliesA3
import Derived.Test.YtpldcikmlpegpaaDoorPackAppliesA4
import Derived.Test.YtpldcikmlpegpaaDoorPackAppliesA5
import Derived.Test.YtpldcikmlpegpaaDoorPackAppliesA6
import Derived.Test.YtpldcikmlpegpaaDoorPackAppliesA7
section
namespace Go.Proofs.YtpldcikmlpegpaaDoor.PB
open Go.RowKit Go.Proofs.YtpldcikmlpegpaaDoorW.PrintWords Go.Proofs.YtpldcikmlpegpaaDoorW.PrintLast Go.Proofs.YtpldcikmlpegpaaDoorW.PrintMore
attribute [local go_sem] max2_int min2_int max_two min_two max_three min_three max_four min_four   -- for this text's walks alone
set_option linter.unusedVariables false
set_option linter.unusedSimpArgs false
def snowlinelaw02_PackApplies.j0 : Nat → Bool → List (S48) → Int → Int → Int → Option (Bool)
  | 0, _, _, _, _, _ => none
  | k + 1, x22, x326000, x327000, x327001, x327002 => if x22 = true then (some true) else ((pack_Apply.f x326000 x327000 x327001 x327002).bind fun bt336 => ((snowlineref02_Apply.f k x326000 x327000 x327001 x327002).bind fun bt342 => ((snowlineref02_Same.f k bt336.1 bt342.1).bind fun t348 => (if t348 = true then (if bt336.2.1 = bt342.2.1 then (some (bt336.2.2 == bt342.2.2)) else (some false)) else (some false)))))
def snowlinelaw02_PackApplies.f (k : Nat) (l0_0 : List (S48)) (a1_0 : Int) (a1_1 : Int) (a1_2 : Int) : Option (Bool) := (snowlinelaw02_sane.f k).bind fun t327 => (if t327 = true then ((snowlinelaw02_few.f k (([(⟨l0_0⟩ : S24)] : List (S24)))).bind fun t331 => (if t331 = true then ((snowlinelaw02_light.f k (([(⟨a1_0, a1_1, a1_2⟩ : S26)] : List (S26)))).bind fun t335 => (snowlinelaw02_PackApplies.j0 k (!t335) l0_0 a1_0 a1_1 a1_2)) else (snowlinelaw02_PackApplies.j0 k true l0_0 a1_0 a1_1 a1_2))) else (some false))
set_option maxHeartbeats 8000000 in
set_option maxRecDepth 100000 in
theorem snowlinelaw02_PackApplies.calls (k : Nat) (P0_0_ : Nat → Prop) (A0_0 : Option Addr) (c0_0 : Nat) (l0_0 : List (S48)) (a1_0 : Int) (a1_1 : Int) (a1_2 : Int) (r : Bool) (w : World) (hs0_0 : Kd.V k48 48 w w.heap.size (fun k_ => P0_0_ k_) (.slice A0_0 l0_0.length c0_0) l0_0) (hG : Glob w) (h : snowlinelaw02_PackApplies.f k l0_0 a1_0 a1_1 a1_2 = some r) :
    Calls Tryd.prog 3 #[.agg #[.slice A0_0 l0_0.length c0_0], .agg #[.int .i64 a1_0, .int .i64 a1_1, .int .i64 a1_2]] w fun e w' => e = .returned (.bool r) ∧ Below w.heap.size w w' := by
  have hu24 := Tryd.underlying24
  have hu26 := Tryd.underlying26
  have HO0_0 := Aside0.mk (show Kd.V k48 48 w w.heap.size (fun k_ => (P0_0_ k_ ∨ w.heap.size ≤ k_)) (.slice A0_0 l0_0.length c0_0) l0_0 from Kd.V_mono hs0_0 (fun k_ hk => .inl hk))
  have HB := Aside0.mk (Below.refl w.heap.size w)
  have HGl := Aside0.mk hG
  clear hG
  have H : ((snowlinelaw02_sane.f k).bind fun t327 => (if t327 = true then ((snowlinelaw02_few.f k (([(⟨l0_0⟩ : S24)] : List (S24)))).bind fun t331 => (if t331 = true then ((snowlinelaw02_light.f k (([(⟨a1_0, a1_1, a1_2⟩ : S26)] : List (S26)))).bind fun t335 => (snowlinelaw02_PackApplies.j0 k (!t335) l0_0 a1_0 a1_1 a1_2)) else (snowlinelaw02_PackApplies.j0 k true l0_0 a1_0 a1_1 a1_2))) else (some false))) = some r := h
  clear h
  replace H := Option.bind_eq_some_iff.mp H
  obtain ⟨t327, A30, H⟩ := H
  replace H : (if t327 = true then ((snowlinelaw02_few.f k (([(⟨l0_0⟩ : S24)] : List (S24)))).bind fun t331 => (if t331 = true then ((snowlinelaw02_light.f k (([(⟨a1_0, a1_1, a1_2⟩ : S26)] : List (S26)))).bind fun t335 => (snowlinelaw02_PackApplies.j0 k (!t335) l0_0 a1_0 a1_1 a1_2)) else (snowlinelaw02_PackApplies.j0 k true l0_0 a1_0 a1_1 a1_2))) else (some false)) = some r := H
  have A3 := Aside0.mk A30
  clear A30
  by_cases c4 : t327 = true
  · subst c4
    have H1 : ((snowlinelaw02_few.f k (([(⟨l0_0⟩ : S24)] : List (S24)))).bind fun t331 => (if t331 = true then ((snowlinelaw02_light.f k (([(⟨a1_0, a1_1, a1_2⟩ : S26)] : List (S26)))).bind fun t335 => (snowlinelaw02_PackApplies.j0 k (!t335) l0_0 a1_0 a1_1 a1_2)) else (snowlinelaw02_PackApplies.j0 k true l0_0 a1_0 a1_1 a1_2))) = some r := by rw [if_pos rfl] at H; exact H
    clear H
    have H := H1
    clear H1
    have HC5 := Aside0.mk H
    clear H
    go_enter Tryd.func3, Tryd.ntmps3
    go_upto_region 3 with (first | ((with_reducible refine gate_dst (N := 2) rfl ?_); (try (refine gate_guard (by rfl) ?_; dsimp only)); refine box_event ?hg (N := 2) ?hd (cs := #[.slice A0_0 l0_0.length c0_0]) (t := 24) ?hr ?_; (case hd => rfl); (case hg => rfl); (case hr => first | (go_simp; done) | (go_simp; rfl)); intro gb325 hg w6 hbox hb; have n0_ := Aside0.mk (Kd.V_below (Kd.V_elderB (by (with_reducible repeat (first | apply Kd.V_alloc | apply Kd.V_drewN | apply Kd.V_drew)); exact HO0_0.out) gb325 (Nat.le_of_eq hg.symm)) hb); have n1_ := Aside0.mk (below_step (by repeat (first | (with_reducible first | exact HB.out | apply below_alloc | apply pw_below_drewN | apply below_drew1) | exact HB.out)) hb); have n2_ := Aside0.mk (hbox); have n3_ := Aside0.mk ((by rw [hg]; exact (below_size (by repeat (first | (with_reducible first | exact HB.out | apply below_alloc | apply pw_below_drewN | apply below_drew1) | exact HB.out))) : w.heap.size ≤ gb325)); have n4_ := Aside0.mk ((by rw [hg]; exact (below_size (by repeat (first | (with_reducible first | exact HB.out | apply below_alloc | apply pw_below_drewN | apply below_drew1) | exact HB.out))) : w.heap.size ≤ gb325)); clear HO0_0; clear HB; have HO0_0 := n0_; have HB := n1_; have BK325 := n2_; have GW325 := n3_; have GE325 := n4_; clear n0_ n1_ n2_ n3_ n4_; clear hb hbox hg) | ((with_reducible refine gate_dst (N := 3) rfl ?_); (try (refine gate_guard (by rfl) ?_; dsimp only)); refine box_event ?hg (N := 3) ?hd (cs := #[.int .i64 a1_0, .int .i64 a1_1, .int .i64 a1_2]) (t := 26) ?hr ?_; (case hd => rfl); (case hg => rfl); (case hr => first | (go_simp; done) | (go_simp; rfl)); intro gb326 hg w7 hbox hb; have n0_ := Aside0.mk (Kd.V_below (Kd.V_elderB (by (with_reducible repeat (first | apply Kd.V_alloc | apply Kd.V_drewN | apply Kd.V_drew)); exact HO0_0.out) gb326 (Nat.le_of_eq hg.symm)) hb); have n1_ := Aside0.mk (blk_below (g := gb325) (o := .cells #[.slice A0_0 l0_0.length c0_0] 24 (0, 0)) (by (with_reducible repeat (first | refine blk_drewN ?_ _ | refine blk_drew ?_ | refine blk_alloc ?_ _)); exact BK325.out) hb); have n2_ := Aside0.mk (below_step (by repeat (first | (with_reducible first | exact HB.out | apply below_alloc | apply pw_below_drewN | apply below_drew1 | refine below_set ?_ GE325.out) | exact HB.out)) hb); have n3_ := Aside0.mk (hbox); have n4_ := Aside0.mk ((by rw [hg]; exact (below_size (by repeat (first | (with_reducible first | exact HB.out | apply below_alloc | apply pw_below_drewN | apply below_drew1 | refine below_set ?_ GE325.out) | exact HB.out))) : w.heap.size ≤ gb326)); have n5_ := Aside0.mk ((by rw [hg]; exact (below_size (by repeat (first | (with_reducible first | exact HB.out | apply below_alloc | apply pw_below_drewN | apply below_drew1 | refine below_set ?_ GE325.out) | exact HB.out))) : w.heap.size ≤ gb326)); have n6_ := Aside0.mk ((by rw [hg]; exact Nat.ne_of_lt (blk_lt (g := gb325) (o := .cells #[.slice A0_0 l0_0.length c0_0] 24 (0, 0)) (by (with_reducible repeat (first | refine blk_drewN ?_ _ | refine blk_drew ?_ | refine blk_alloc ?_ _)); exact BK325.out)) : gb325 ≠ gb326)); have n7_ := Aside0.mk ((by rw [hg]; exact Nat.ne_of_gt (blk_lt (g := gb325) (o := .cells #[.slice A0_0 l0_0.length c0_0] 24 (0, 0)) (by (with_reducible repeat (first | refine blk_drewN ?_ _ | refine blk_drew ?_ | refine blk_alloc ?_ _)); exact BK325.out)) : gb326 ≠ gb325)); clear HO0_0; clear BK325; clear HB; have HO0_0 := n0_; have BK325 := n1_; have HB := n2_; have BK326 := n3_; have GW326 := n4_; have GE326 := n5_; have NB325_326 := n6_; have NB326_325 := n7_; clear n0_ n1_ n2_ n3_ n4_ n5_ n6_ n7_; clear hb hbox hg) | ((with_reducible refine gate_callee (f := 18) rfl ?_); refine goesL_ (some 11) rfl rfl Tryd.func18 (by kernel_rfl) rfl #[] rfl (by (try simp only [List.map_toArray, List.map_cons, List.map_nil]); first | done | rfl | (simp only [List.length_drop, List.length_take]; rfl)) ?_; (with_reducible refine (snowlinelaw02_sane.calls k  true _ ?hgl_ A3.out).mono ?_); (case hgl_ => exact HGl.out.below (by repeat (first | (with_reducible first | exact HB.out | apply below_alloc | apply pw_below_drewN | apply below_drew1 | refine below_set ?_ GE325.out | refine below_set ?_ GE326.out) | exact HB.out)) (Nat.le_refl _)); rintro e w8 ⟨rfl, hb⟩; refine ⟨_, rfl, ?_⟩; have n0_ := Aside0.mk (Kd.V_below (by (with_reducible repeat (first | apply Kd.V_alloc | apply Kd.V_drewN | apply Kd.V_drew)); exact HO0_0.out) hb); have n1_ := Aside0.mk (blk_below (g := gb325) (o := .cells #[.slice A0_0 l0_0.length c0_0] 24 (0, 0)) (by (with_reducible repeat (first | refine blk_drewN ?_ _ | refine blk_drew ?_ | refine blk_alloc ?_ _)); exact BK325.out) hb); have n2_ := Aside0.mk (blk_below (g := gb326) (o := .cells #[.int .i64 a1_0, .int .i64 a1_1, .int .i64 a1_2] 26 (0, 0)) (by (with_reducible repeat (first | refine blk_drewN ?_ _ | refine blk_drew ?_ | refine blk_alloc ?_ _)); exact BK326.out) hb); have n3_ := Aside0.mk (below_step (by repeat (first | (with_reducible first | exact HB.out | apply below_alloc | apply pw_below_drewN | apply below_drew1 | refine below_set ?_ GE325.out | refine below_set ?_ GE326.out) | exact HB.out)) hb); clear HO0_0; clear BK325; clear BK326; clear HB; have HO0_0 := n0_; have BK325 := n1_; have BK326 := n2_; have HB := n3_; clear n0_ n1_ n2_ n3_; (try clear hb); (try clear hb2); (try clear hk); (try clear hi)))
    (try simp only [Act.put, List.setIfInBounds_toArray, List.set_cons_zero, List.set_cons_succ])
    go_cut [22] (fun v22 wc => ∃ (kq : Nat) (x22_4 : Bool), v22 = .bool x22_4 ∧ Aside0 (snowlinelaw02_PackApplies.j0 kq x22_4 l0_0 a1_0 a1_1 a1_2 = some r) ∧ Aside0 (kq ≤ k) ∧ Aside0 (Kd.V k48 48 wc w.heap.size (fun k_ => (P0_0_ k_ ∨ w.heap.size ≤ k_) ∧ k_ ≠ gb325 ∧ k_ ≠ gb326) (.slice A0_0 l0_0.length c0_0) l0_0) ∧ Aside0 (wc.heap[gb325]? = some (.cells #[(.slice A0_0 l0_0.length c0_0)] 24 (0, 0))) ∧ Aside0 (wc.heap[gb326]? = some (.cells #[.int .i64 a1_0, .int .i64 a1_1, .int .i64 a1_2] 26 (0, 0))) ∧ Aside0 (Below w.heap.size w wc))
    case first =>
      have H := HC5.out
      clear HC5
      obtain ⟨y328, hy328⟩ : ∃ y_ : List (S24), y_ = (([(⟨l0_0⟩ : S24)] : List (S24))) := ⟨_, rfl⟩
      replace H : ((snowlinelaw02_few.f k y328).bind fun t331 => (if t331 = true then ((snowlinelaw02_light.f k (([(⟨a1_0, a1_1, a1_2⟩ : S26)] : List (S26)))).bind fun t335 => (snowlinelaw02_PackApplies.j0 k (!t335) l0_0 a1_0 a1_1 a1_2)) else (snowlinelaw02_PackApplies.j0 k true l0_0 a1_0 a1_1 a1_2))) = some r := by first | (rw [hy328]; with_reducible exact H) | (have H2_ := (Option.bind_some _ _).symm.trans H; rw [hy328]; with_reducible exact H2_) | (have H2_ := (Option.bind_some _ _).symm.trans H; with_reducible exact H2_) | with_reducible exact H | (rw [hy328]; exact H) | exact H
      have Ny328 := Aside0.mk hy328
      clear hy328
      replace H := Option.bind_eq_some_iff.mp H
      obtain ⟨t331, A90, H⟩ := H
      replace H : (if t331 = true then ((snowlinelaw02_light.f k (([(⟨a1_0, a1_1, a1_2⟩ : S26)] : List (S26)))).bind fun t335 => (snowlinelaw02_PackApplies.j0 k (!t335) l0_0 a1_0 a1_1 a1_2)) else (snowlinelaw02_PackApplies.j0 k true l0_0 a1_0 a1_1 a1_2)) = some r := H
      have A9 := Aside0.mk A90
      clear A90
      by_cases c10 : t331 = true
      · subst c10
        have H1 : ((snowlinelaw02_light.f k (([(⟨a1_0, a1_1, a1_2⟩ : S26)] : List (S26)))).bind fun t335 => (snowlinelaw02_PackApplies.j0 k (!t335) l0_0 a1_0 a1_1 a1_2)) = some r := by rw [if_pos rfl] at H; exact H
        clear H
        have H := H1
        clear H1
        obtain ⟨y332, hy332⟩ : ∃ y_ : List (S26), y_ = (([(⟨a1_0, a1_1, a1_2⟩ : S26)] : List (S26))) := ⟨_, rfl⟩
        replace H : ((snowlinelaw02_light.f k y332).bind fun t335 => (snowlinelaw02_PackApplies.j0 k (!t335) l0_0 a1_0 a1_1 a1_2)) = some r := by first | (rw [hy332]; with_reducible exact H) | (have H2_ := (Option.bind_some _ _).symm.trans H; rw [hy332]; with_reducible exact H2_) | (have H2_ := (Option.bind_some _ _).symm.trans H; with_reducible exact H2_) | with_reducible exact H | (rw [hy332]; exact H) | exact H
        have Ny332 := Aside0.mk hy332
        clear hy332
        replace H := Option.bind_eq_some_iff.mp H
        obtain ⟨t335, A110, H⟩ := H
        replace H : (snowlinelaw02_PackApplies.j0 k (!t335) l0_0 a1_0 a1_1 a1_2) = some r := H
        have A11 := Aside0.mk A110
        clear A110
        have H' := Aside0.mk H
        clear H
        have hnb12 := NB325_326.out
        have hnc12 := NB326_325.out
        have hcz13_0 : w8.cell? ⟨gb325, 0, none⟩ = some (.slice A0_0 l0_0.length c0_0) := (blk_cell BK325.out 0).trans rfl
        have hfz13_0 := blk_frozen BK325.out 0
        go_wp2_with (first | ((with_reducible refine gate_dst (N := 14) rfl ?_); (try (refine gate_guard (by rfl) ?_; dsimp only)); refine Kd.N_lit k24 _ 24 ?hg (N' := 14) ?hd (xs := ([(⟨l0_0⟩ : S24)] : List (S24))) (inner := [.slice A0_0 l0_0.length c0_0]) (ok := (fun k_ => (P0_0_ k_ ∨ w.heap.size ≤ k_) ∧ k_ ≠ gb325 ∧ k_ ≠ gb326)) (okp := (fun k_ => (P0_0_ k_ ∨ w.heap.size ≤ k_) ∧ k_ ≠ gb325 ∧ k_ ≠ gb326)) ?hr ?hp (fun _ hk => hk) ((show ∀ k_, w8.heap.size ≤ k_ → (fun k_ => (P0_0_ k_ ∨ w.heap.size ≤ k_) ∧ k_ ≠ gb325 ∧ k_ ≠ gb326) k_ from fun k_ hk => ⟨(.inr (Nat.le_trans (below_size (by repeat (first | (with_reducible first | exact HB.out | apply below_alloc | apply pw_below_drewN | apply below_drew1 | refine below_set ?_ GE325.out | refine below_set ?_ GE326.out) | exact HB.out))) hk)), Kd.freshB (g := gb325) (o := .cells #[.slice A0_0 l0_0.length c0_0] 24 (0, 0)) (by (with_reducible repeat (first | refine blk_drewN ?_ _ | refine blk_drew ?_ | refine blk_alloc ?_ _)); exact BK325.out) k_ hk, Kd.freshB (g := gb326) (o := .cells #[.int .i64 a1_0, .int .i64 a1_1, .int .i64 a1_2] 26 (0, 0)) (by (with_reducible repeat (first | refine blk_drewN ?_ _ | refine blk_drew ?_ | refine blk_alloc ?_ _)); exact BK326.out) k_ hk⟩) _ (Nat.le_refl _)) (Below.refl _ _) (Nat.le_refl _) (by simp) ?_; (case hd => rfl); (case hg => rfl); (case hr => first | (go_simp; done) | (go_simp; rfl)); (case hp => exact (Reps.one (show Kd.FK k24 _ _ (⟨l0_0⟩ : S24) [.slice A0_0 l0_0.length c0_0] from (k24_mkF _ _ (⟨l0_0⟩ : S24) (Kd.V_reads' (Kd.V_mono (ok' := (fun k_ => (P0_0_ k_ ∨ w.heap.size ≤ k_) ∧ k_ ≠ gb325 ∧ k_ ≠ gb326)) (HO0_0.out) (fun k_ hk => ⟨hk.1.1, ⟨hk.1.2, hk.2⟩⟩))).2.1 (Kd.V_F (Kd.V_mono (ok' := (fun k_ => (P0_0_ k_ ∨ w.heap.size ≤ k_) ∧ k_ ≠ gb325 ∧ k_ ≠ gb326)) (HO0_0.out) (fun k_ hk => ⟨hk.1.1, ⟨hk.1.2, hk.2⟩⟩))))) (Reps.none _ _))); intro v329 w14 ho15 hb hg_ hnew_; clear hg_ hnew_; (first | rw [← Ny328.out] at ho15 | (simp only [Int.reduceToNat] at ho15; rw [← Ny328.out] at ho15)); have n0_ := Aside0.mk (Kd.V_elder' (by (with_reducible repeat (first | apply Kd.V_alloc | apply Kd.V_drewN | apply Kd.V_drew)); exact HO0_0.out) (Kd.N_base ho15) hb); have n1_ := Aside0.mk (Kd.N_lower ho15 (below_size (by repeat (first | (with_reducible first | exact HB.out | apply below_alloc | apply pw_below_drewN | apply below_drew1 | refine below_set ?_ GE325.out | refine below_set ?_ GE326.out) | exact HB.out)))); have n2_ := Aside0.mk (blk_below (g := gb325) (o := .cells #[.slice A0_0 l0_0.length c0_0] 24 (0, 0)) (by (with_reducible repeat (first | refine blk_drewN ?_ _ | refine blk_drew ?_ | refine blk_alloc ?_ _)); exact BK325.out) hb); have n3_ := Aside0.mk (blk_below (g := gb326) (o := .cells #[.int .i64 a1_0, .int .i64 a1_1, .int .i64 a1_2] 26 (0, 0)) (by (with_reducible repeat (first | refine blk_drewN ?_ _ | refine blk_drew ?_ | refine blk_alloc ?_ _)); exact BK326.out) hb); have n4_ := Aside0.mk (below_step (by repeat (first | (with_reducible first | exact HB.out | apply below_alloc | apply pw_below_drewN | apply below_drew1 | refine below_set ?_ GE325.out | refine below_set ?_ GE326.out) | exact HB.out)) hb); clear HO0_0; clear BK325; clear BK326; clear HB; have HO0_0 := n0_; have HO330 := n1_; have BK325 := n2_; have BK326 := n3_; have HB := n4_; clear n0_ n1_ n2_ n3_ n4_; clear hb ho15; obtain ⟨Ao16, co16, eo16⟩ := Kd.N_slice HO330.out; subst eo16) | ((with_reducible refine gate_callee (f := 19) rfl ?_); refine goesL_ (some 15) rfl rfl Tryd.func19 (by kernel_rfl) rfl #[.slice Ao16 y328.length co16] rfl (by (try simp only [List.map_toArray, List.map_cons, List.map_nil]); first | done | rfl | (simp only [List.length_drop, List.length_take]; rfl)) ?_; (with_reducible refine (snowlinelaw02_few.calls k _ _ y328 true _ ?side1 ?side2 A9.out).mono ?_); (case side1 => repeat (first | exact (Kd.N_reads' HO330.out).2.2 | (with_reducible refine Kd.C_alloc ?_ _) | (with_reducible refine Kd.C_drewN ?_ _) | (with_reducible refine Kd.C_drew ?_))); (case side2 => exact (Kd.N_reads' HO330.out).2.1); rintro e w' ⟨rfl, ⟨nd, rfl⟩⟩; refine ⟨_, rfl, ?_⟩; have hcz17_0 : w14.cell? ⟨gb326, 0, none⟩ = some (.int .i64 a1_0) := (blk_cell BK326.out 0).trans rfl; have hcz17_1 : w14.cell? ⟨gb326, 1, none⟩ = some (.int .i64 a1_1) := (blk_cell BK326.out 1).trans rfl; have hcz17_2 : w14.cell? ⟨gb326, 2, none⟩ = some (.int .i64 a1_2) := (blk_cell BK326.out 2).trans rfl; have hfz17_0 := blk_frozen BK326.out 0; have hfz17_1 := blk_frozen BK326.out 1; have hfz17_2 := blk_frozen BK326.out 2) | ((with_reducible refine gate_dst (N := 19) rfl ?_); (try (refine gate_guard (by rfl) ?_; dsimp only)); refine Kd.R_lit k26 _ 26 ?hg (N := 19) ?hd (xs := ([(⟨a1_0, a1_1, a1_2⟩ : S26)] : List (S26))) (inner := [.int .i64 a1_0, .int .i64 a1_1, .int .i64 a1_2]) (ok := fun _ => True) (okp := fun _ => True) ?hr ?hp (fun _ hk => hk) trivial (Below.refl _ _) (Nat.le_refl _) (by simp) ?_; (case hd => rfl); (case hg => rfl); (case hr => first | (go_simp; done) | (go_simp; rfl)); (case hp => exact (Reps.c3 (show Kd.M k26 _ _ _ (⟨a1_0, a1_1, a1_2⟩ : S26) [.int .i64 a1_0, .int .i64 a1_1, .int .i64 a1_2] from (k26_mkM _ _ _ (⟨a1_0, a1_1, a1_2⟩ : S26) )) (Reps.none _ _))); intro v333 w18 ho19 hb hg_ hnew_; clear hg_ hnew_; (first | rw [← Ny332.out] at ho19 | (simp only [Int.reduceToNat] at ho19; rw [← Ny332.out] at ho19)); have n0_ := Aside0.mk (Kd.V_elder' (by (with_reducible repeat (first | apply Kd.V_alloc | apply Kd.V_drewN | apply Kd.V_drew)); exact HO0_0.out) (Kd.R_base ho19) hb); have n1_ := Aside0.mk (Kd.N_elder' (by (with_reducible repeat (first | apply Kd.N_alloc | apply Kd.N_drewN | apply Kd.N_drew)); exact HO330.out) (Kd.R_base ho19) hb); have n2_ := Aside0.mk (Kd.R_lower (Kd.R_newB (Kd.R_newM (M := fun k_ => (w.heap.size ≤ k_)) ho19 (below_size (by repeat (first | (with_reducible first | exact HB.out | apply below_alloc | apply pw_below_drewN | apply below_drew1 | refine below_set ?_ GE325.out | refine below_set ?_ GE326.out) | exact HB.out))) (fun k_ h_ => h_)) (g := gb326) (o := .cells #[.int .i64 a1_0, .int .i64 a1_1, .int .i64 a1_2] 26 (0, 0)) (by (with_reducible repeat (first | refine blk_drewN ?_ _ | refine blk_drew ?_ | refine blk_alloc ?_ _)); exact BK326.out)) (below_size (by repeat (first | (with_reducible first | exact HB.out | apply below_alloc | apply pw_below_drewN | apply below_drew1 | refine below_set ?_ GE325.out | refine below_set ?_ GE326.out) | exact HB.out)))); have n3_ := Aside0.mk (blk_below (g := gb325) (o := .cells #[.slice A0_0 l0_0.length c0_0] 24 (0, 0)) (by (with_reducible repeat (first | refine blk_drewN ?_ _ | refine blk_drew ?_ | refine blk_alloc ?_ _)); exact BK325.out) hb); have n4_ := Aside0.mk (blk_below (g := gb326) (o := .cells #[.int .i64 a1_0, .int .i64 a1_1, .int .i64 a1_2] 26 (0, 0)) (by (with_reducible repeat (first | refine blk_drewN ?_ _ | refine blk_drew ?_ | refine blk_alloc ?_ _)); exact BK326.out) hb); have n5_ := Aside0.mk (below_step (by repeat (first | (with_reducible first | exact HB.out | apply below_alloc | apply pw_below_drewN | apply below_drew1 | refine below_set ?_ GE325.out | refine below_set ?_ GE326.out) | exact HB.out)) hb); clear HO0_0; clear HO330; clear BK325; clear BK326; clear HB; have HO0_0 := n0_; have HO330 := n1_; have HO334 := n2_; have BK325 := n3_; have BK326 := n4_; have HB := n5_; clear n0_ n1_ n2_ n3_ n4_ n5_; clear hb ho19; obtain ⟨Ao20, co20, eo20⟩ := Kd.R_slice HO334.out; subst eo20) | (go_at_call 20; (with_reducible refine (snowlinelaw02_light.calls k _ _ y332 t335 _ ?side1 ?side2 A11.out).mono ?_); (case side1 => repeat (first | exact (Kd.R_reads' HO334.out).2.2 | (with_reducible refine Kd.C_alloc ?_ _) | (with_reducible refine Kd.C_drewN ?_ _) | (with_reducible refine Kd.C_drew ?_))); (case side2 => exact (Kd.R_reads' HO334.out).2.1); rintro e w' ⟨rfl, ⟨nd, rfl⟩⟩))
        go_meet
        case rel => exact ⟨_, (!t335), (by first | rfl | (simp; done) | (simp [*]; done)), H', ⟨by first | omega | exact Nat.le_refl _⟩, ⟨by (with_reducible repeat (first | apply Kd.V_alloc | apply Kd.V_drewN | apply Kd.V_drew)); exact Kd.V_mono HO0_0.out (fun _ hk => ⟨hk.1.1.1.1, ⟨hk.1.1.1.2, hk.1.1.2⟩⟩)⟩, ⟨by (with_reducible repeat (first | refine blk_drewN ?_ _ | refine blk_drew ?_ | refine blk_alloc ?_ _)); exact BK325.out⟩, ⟨by (with_reducible repeat (first | refine blk_drewN ?_ _ | refine blk_drew ?_ | refine blk_alloc ?_ _)); exact BK326.out⟩, ⟨by repeat (first | (with_reducible first | exact HB.out | apply below_alloc | apply pw_below_drewN | apply below_drew1 | refine below_set ?_ GE325.out | refine below_set ?_ GE326.out) | exact HB.out)⟩⟩
      · replace c10 := Bool.eq_false_iff.mpr c10
        subst c10
        have H1 : (snowlinelaw02_PackApplies.j0 k true l0_0 a1_0 a1_1 a1_2) = some r := by rw [if_neg (show ¬ (false = true) by decide)] at H; exact H
        clear H
        have H := H1
        clear H1
        have H' := Aside0.mk H
        clear H
        have hnb21 := NB325_326.out
        have hnc21 := NB326_325.out
        have hcz22_0 : w8.cell? ⟨gb325, 0, none⟩ = some (.slice A0_0 l0_0.length c0_0) := (blk_cell BK325.out 0).trans rfl
        have hfz22_0 := blk_frozen BK325.out 0
        go_wp2_with (first | ((with_reducible refine gate_dst (N := 14) rfl ?_); (try (refine gate_guard (by rfl) ?_; dsimp only)); refine Kd.N_lit k24 _ 24 ?hg (N' := 14) ?hd (xs := ([(⟨l0_0⟩ : S24)] : List (S24))) (inner := [.slice A0_0 l0_0.length c0_0]) (ok := (fun k_ => (P0_0_ k_ ∨ w.heap.size ≤ k_) ∧ k_ ≠ gb325 ∧ k_ ≠ gb326)) (okp := (fun k_ => (P0_0_ k_ ∨ w.heap.size ≤ k_) ∧ k_ ≠ gb325 ∧ k_ ≠ gb326)) ?hr ?hp (fun _ hk => hk) ((show ∀ k_, w8.heap.size ≤ k_ → (fun k_ => (P0_0_ k_ ∨ w.heap.size ≤ k_) ∧ k_ ≠ gb325 ∧ k_ ≠ gb326) k_ from fun k_ hk => ⟨(.inr (Nat.le_trans (below_size (by repeat (first | (with_reducible first | exact HB.out | apply below_alloc | apply pw_below_drewN | apply below_drew1 | refine below_set ?_ GE325.out | refine below_set ?_ GE326.out) | exact HB.out))) hk)), Kd.freshB (g := gb325) (o := .cells #[.slice A0_0 l0_0.length c0_0] 24 (0, 0)) (by (with_reducible repeat (first | refine blk_drewN ?_ _ | refine blk_drew ?_ | refine blk_alloc ?_ _)); exact BK325.out) k_ hk, Kd.freshB (g := gb326) (o := .cells #[.int .i64 a1_0, .int .i64 a1_1, .int .i64 a1_2] 26 (0, 0)) (by (with_reducible repeat (first | refine blk_drewN ?_ _ | refine blk_drew ?_ | refine blk_alloc ?_ _)); exact BK326.out) k_ hk⟩) _ (Nat.le_refl _)) (Below.refl _ _) (Nat.le_refl _) (by simp) ?_; (case hd => rfl); (case hg => rfl); (case hr => first | (go_simp; done) | (go_simp; rfl)); (case hp => exact (Reps.one (show Kd.FK k24 _ _ (⟨l0_0⟩ : S24) [.slice A0_0 l0_0.length c0_0] from (k24_mkF _ _ (⟨l0_0⟩ : S24) (Kd.V_reads' (Kd.V_mono (ok' := (fun k_ => (P0_0_ k_ ∨ w.heap.size ≤ k_) ∧ k_ ≠ gb325 ∧ k_ ≠ gb326)) (HO0_0.out) (fun k_ hk => ⟨hk.1.1, ⟨hk.1.2, hk.2⟩⟩))).2.1 (Kd.V_F (Kd.V_mono (ok' := (fun k_ => (P0_0_ k_ ∨ w.heap.size ≤ k_) ∧ k_ ≠ gb325 ∧ k_ ≠ gb326)) (HO0_0.out) (fun k_ hk => ⟨hk.1.1, ⟨hk.1.2, hk.2⟩⟩))))) (Reps.none _ _))); intro v329 w23 ho24 hb hg_ hnew_; clear hg_ hnew_; (first | rw [← Ny328.out] at ho24 | (simp only [Int.reduceToNat] at ho24; rw [← Ny328.out] at ho24)); have n0_ := Aside0.mk (Kd.V_elder' (by (with_reducible repeat (first | apply Kd.V_alloc | apply Kd.V_drewN | apply Kd.V_drew)); exact HO0_0.out) (Kd.N_base ho24) hb); have n1_ := Aside0.mk (Kd.N_lower ho24 (below_size (by repeat (first | (with_reducible first | exact HB.out | apply below_alloc | apply pw_below_drewN | apply below_drew1 | refine below_set ?_ GE325.out | refine below_set ?_ GE326.out) | exact HB.out)))); have n2_ := Aside0.mk (blk_below (g := gb325) (o := .cells #[.slice A0_0 l0_0.length c0_0] 24 (0, 0)) (by (with_reducible repeat (first | refine blk_drewN ?_ _ | refine blk_drew ?_ | refine blk_alloc ?_ _)); exact BK325.out) hb); have n3_ := Aside0.mk (blk_below (g := gb326) (o := .cells #[.int .i64 a1_0, .int .i64 a1_1, .int .i64 a1_2] 26 (0, 0)) (by (with_reducible repeat (first | refine blk_drewN ?_ _ | refine blk_drew ?_ | refine blk_alloc ?_ _)); exact BK326.out) hb); have n4_ := Aside0.mk (below_step (by repeat (first | (with_reducible first | exact HB.out | apply below_alloc | apply pw_below_drewN | apply below_drew1 | refine below_set ?_ GE325.out | refine below_set ?_ GE326.out) | exact HB.out)) hb); clear HO0_0; clear BK325; clear BK326; clear HB; have HO0_0 := n0_; have HO330 := n1_; have BK325 := n2_; have BK326 := n3_; have HB := n4_; clear n0_ n1_ n2_ n3_ n4_; clear hb ho24; obtain ⟨Ao25, co25, eo25⟩ := Kd.N_slice HO330.out; subst eo25) | ((with_reducible refine gate_callee (f := 19) rfl ?_); refine goesL_ (some 15) rfl rfl Tryd.func19 (by kernel_rfl) rfl #[.slice Ao25 y328.length co25] rfl (by (try simp only [List.map_toArray, List.map_cons, List.map_nil]); first | done | rfl | (simp only [List.length_drop, List.length_take]; rfl)) ?_; (with_reducible refine (snowlinelaw02_few.calls k _ _ y328 false _ ?side1 ?side2 A9.out).mono ?_); (case side1 => repeat (first | exact (Kd.N_reads' HO330.out).2.2 | (with_reducible refine Kd.C_alloc ?_ _) | (with_reducible refine Kd.C_drewN ?_ _) | (with_reducible refine Kd.C_drew ?_))); (case side2 => exact (Kd.N_reads' HO330.out).2.1); rintro e w' ⟨rfl, ⟨nd, rfl⟩⟩; refine ⟨_, rfl, ?_⟩))
        go_meet
        case rel => exact ⟨_, (true), (by first | rfl | (simp; done) | (simp [*]; done)), H', ⟨by first | omega | exact Nat.le_refl _⟩, ⟨by (with_reducible repeat (first | apply Kd.V_alloc | apply Kd.V_drewN | apply Kd.V_drew)); exact Kd.V_mono HO0_0.out (fun _ hk => ⟨hk.1.1.1, ⟨hk.1.1.2, hk.1.2⟩⟩)⟩, ⟨by (with_reducible repeat (first | refine blk_drewN ?_ _ | refine blk_drew ?_ | refine blk_alloc ?_ _)); exact BK325.out⟩, ⟨by (with_reducible repeat (first | refine blk_drewN ?_ _ | refine blk_drew ?_ | refine blk_alloc ?_ _)); exact BK326.out⟩, ⟨by repeat (first | (with_reducible first | exact HB.out | apply below_alloc | apply pw_below_drewN | apply below_drew1 | refine below_set ?_ GE325.out | refine below_set ?_ GE326.out) | exact HB.out)⟩⟩
    case rest =>
      clear HC5
      try clear c1
      try clear c2
      try clear p2
      try clear c3
      try clear c4
      try clear c10
      try clear c12
      try clear c18
      try clear c19
      try clear c21
      try clear hcz13_0
      try clear hcz17_0
      try clear hcz17_1
      try clear hcz17_2
      try clear hcz22_0
      try clear hfz13_0
      try clear hfz17_0
      try clear hfz17_1
      try clear hfz17_2
      try clear hfz22_0
      obtain ⟨kq, x22_4, rfl, HA, HJ4, HO_326000, BK325, BK326, HB⟩ := hcut
      cases kq with
      | zero => exact absurd HA.out (by simp [snowlinelaw02_PackApplies.j0])
      | succ kj4 =>
        have H := HA.out
        clear HA
        simp only [snowlinelaw02_PackApplies.j0] at H
        by_cases c26 : x22_4 = true
        · subst c26
          have H1 : (some true) = some r := by rw [if_pos rfl] at H; exact H
          clear H
          have H := H1
          clear H1
          obtain rfl := Option.some.inj H
          go_wp2
          go_ret
          exact ⟨by first | rfl | (simp [errW_none, errW_some] <;> rfl) | (simp [*, errW_none, errW_some] <;> rfl), by repeat (first | (with_reducible first | exact HB.out | apply below_alloc | apply pw_below_drewN | apply below_drew1 | refine below_set ?_ GE325.out | refine below_set ?_ GE326.out) | exact HB.out)⟩
        · replace c26 := Bool.eq_false_iff.mpr c26
          subst c26
          have H1 : ((pack_Apply.f l0_0 a1_0 a1_1 a1_2).bind fun bt336 => ((snowlineref02_Apply.f kj4 l0_0 a1_0 a1_1 a1_2).bind fun bt342 => ((snowlineref02_Same.f kj4 bt336.1 bt342.1).bind fun t348 => (if t348 = true then (if bt336.2.1 = bt342.2.1 then (some (bt336.2.2 == bt342.2.2)) else (some false)) else (some false))))) = some r := by rw [if_neg (show ¬ (false = true) by decide)] at H; exact H
          clear H
          have H := H1
          clear H1
          replace H := Option.bind_eq_some_iff.mp H
          obtain ⟨⟨t336, t339, t340⟩, A270, H⟩ := H
          replace H : ((snowlineref02_Apply.f kj4 l0_0 a1_0 a1_1 a1_2).bind fun bt342 => ((snowlineref02_Same.f kj4 t336 bt342.1).bind fun t348 => (if t348 = true then (if t339 = bt342.2.1 then (some (t340 == bt342.2.2)) else (some false)) else (some false)))) = some r := H
          have A27 := Aside0.mk A270
          clear A270
          replace H := Option.bind_eq_some_iff.mp H
          obtain ⟨⟨t342, t345, t346⟩, A280, H⟩ := H
          replace H : ((snowlineref02_Same.f kj4 t336 t342).bind fun t348 => (if t348 = true then (if t339 = t345 then (some (t340 == t346)) else (some false)) else (some false))) = some r := H
          have A28 := Aside0.mk A280
          clear A280
          replace H := Option.bind_eq_some_iff.mp H
          obtain ⟨t348, A290, H⟩ := H
          replace H : (if t348 = true then (if t339 = t345 then (some (t340 == t346)) else (some false)) else (some false)) = some r := H
          have A29 := Aside0.mk A290
          clear A290
          by_cases c30 : t348 = true
          · subst c30
            have H1 : (if t339 = t345 then (some (t340 == t346)) else (some false)) = some r := by rw [if_pos rfl] at H; exact H
            clear H
            have H := H1
            clear H1
            by_cases c31 : t339 = t345
            · rw [if_pos c31] at H
              have c31b0 : (t339 == t345) = true := beq_iff_eq.mpr c31
              have c31b1 : (t339 != t345) = false := bne_eq_false_iff_eq.mpr c31
              clear c31
              obtain rfl := Option.some.inj H
              have hnb32 := NB325_326.out
              have hnc32 := NB326_325.out
              have hcz33_0 : wc.cell? ⟨gb325, 0, none⟩ = some (.slice A0_0 l0_0.length c0_0) := (blk_cell BK325.out 0).trans rfl
              have hfz33_0 := blk_frozen BK325.out 0
              have hcz34_0 : wc.cell? ⟨gb326, 0, none⟩ = some (.int .i64 a1_0) := (blk_cell BK326.out 0).trans rfl
              have hcz34_1 : wc.cell? ⟨gb326, 1, none⟩ = some (.int .i64 a1_1) := (blk_cell BK326.out 1).trans rfl
              have hcz34_2 : wc.cell? ⟨gb326, 2, none⟩ = some (.int .i64 a1_2) := (blk_cell BK326.out 2).trans rfl
              have hfz34_0 := blk_frozen BK326.out 0
              have hfz34_1 := blk_frozen BK326.out 1
              have hfz34_2 := blk_frozen BK326.out 2
              go_wp2_with (first | ((with_reducible refine gate_callee (f := 21) rfl ?_); refine goesL_ (some 26) rfl rfl Tryd.func21 (by kernel_rfl) rfl #[.agg #[.slice A0_0 l0_0.length c0_0], .agg #[.int .i64 a1_0, .int .i64 a1_1, .int .i64 a1_2]] rfl (by (try simp only [List.map_toArray, List.map_cons, List.map_nil]); first | done | rfl | (simp only [List.length_drop, List.length_take]; rfl)) ?_; (with_reducible refine (pack_Apply.calls _ _ l0_0 a1_0 a1_1 a1_2 t336 t339 t340 _ ?side1 ?side2 A27.out).mono ?_); (case side1 => repeat (first | exact (Kd.V_reads' HO_326000.out).2.2 | (with_reducible refine Kd.C_alloc ?_ _) | (with_reducible refine Kd.C_drewN ?_ _) | (with_reducible refine Kd.C_drew ?_))); (case side2 => exact (Kd.V_reads' HO_326000.out).2.1); rintro e w35 ⟨v337, rfl, ho0, hb⟩; refine ⟨_, rfl, ?_⟩; have n0_ := Aside0.mk (Kd.V_elder' (by (with_reducible repeat (first | apply Kd.V_alloc | apply Kd.V_drewN | apply Kd.V_drew)); exact HO_326000.out) (Kd.R_base ho0) hb); have n1_ := Aside0.mk (Kd.R_lower (Kd.R_newM (M := fun k_ => (w.heap.size ≤ k_)) ho0 (below_size (by repeat (first | (with_reducible first | exact HB.out | apply below_alloc | apply pw_below_drewN | apply below_drew1 | refine below_set ?_ GE325.out | refine below_set ?_ GE326.out) | exact HB.out))) (fun k_ h_ => h_)) (below_size (by repeat (first | (with_reducible first | exact HB.out | apply below_alloc | apply pw_below_drewN | apply below_drew1 | refine below_set ?_ GE325.out | refine below_set ?_ GE326.out) | exact HB.out)))); have n2_ := Aside0.mk (blk_below (g := gb325) (o := .cells #[.slice A0_0 l0_0.length c0_0] 24 (0, 0)) (by (with_reducible repeat (first | refine blk_drewN ?_ _ | refine blk_drew ?_ | refine blk_alloc ?_ _)); exact BK325.out) hb); have n3_ := Aside0.mk (blk_below (g := gb326) (o := .cells #[.int .i64 a1_0, .int .i64 a1_1, .int .i64 a1_2] 26 (0, 0)) (by (with_reducible repeat (first | refine blk_drewN ?_ _ | refine blk_drew ?_ | refine blk_alloc ?_ _)); exact BK326.out) hb); have n4_ := Aside0.mk (below_step (by repeat (first | (with_reducible first | exact HB.out | apply below_alloc | apply pw_below_drewN | apply below_drew1 | refine below_set ?_ GE325.out | refine below_set ?_ GE326.out) | exact HB.out)) hb); clear HO_326000; clear BK325; clear BK326; clear HB; have HO_326000 := n0_; have HO338 := n1_; have BK325 := n2_; have BK326 := n3_; have HB := n4_; clear n0_ n1_ n2_ n3_ n4_; (try clear hb); (try clear hb2); (try clear hk); (try clear hi); (try clear ho0)) | ((with_reducible refine gate_dst (N := 5) rfl ?_); (try (refine gate_guard (by rfl) ?_; dsimp only)); refine box_event ?hg (N := 5) ?hd (cs := #[.slice none 0 0]) (t := 24) ?hr ?_; (case hd => rfl); (case hg => rfl); (case hr => first | (go_simp; done) | (go_simp; rfl)); intro gb341 hg w36 hbox hb; have n0_ := Aside0.mk (Kd.V_below (Kd.V_elderB (by (with_reducible repeat (first | apply Kd.V_alloc | apply Kd.V_drewN | apply Kd.V_drew)); exact HO_326000.out) gb341 (Nat.le_of_eq hg.symm)) hb); have n1_ := Aside0.mk (Kd.R_below (by (with_reducible repeat (first | apply Kd.R_alloc | apply Kd.R_drewN | apply Kd.R_drew)); exact HO338.out) hb); have n2_ := Aside0.mk (blk_below (g := gb325) (o := .cells #[.slice A0_0 l0_0.length c0_0] 24 (0, 0)) (by (with_reducible repeat (first | refine blk_drewN ?_ _ | refine blk_drew ?_ | refine blk_alloc ?_ _)); exact BK325.out) hb); have n3_ := Aside0.mk (blk_below (g := gb326) (o := .cells #[.int .i64 a1_0, .int .i64 a1_1, .int .i64 a1_2] 26 (0, 0)) (by (with_reducible repeat (first | refine blk_drewN ?_ _ | refine blk_drew ?_ | refine blk_alloc ?_ _)); exact BK326.out) hb); have n4_ := Aside0.mk (below_step (by repeat (first | (with_reducible first | exact HB.out | apply below_alloc | apply pw_below_drewN | apply below_drew1 | refine below_set ?_ GE325.out | refine below_set ?_ GE326.out) | exact HB.out)) hb); have n5_ := Aside0.mk (hbox); have n6_ := Aside0.mk ((by rw [hg]; exact (below_size (by repeat (first | (with_reducible first | exact HB.out | apply below_alloc | apply pw_below_drewN | apply below_drew1 | refine below_set ?_ GE325.out | refine below_set ?_ GE326.out) | exact HB.out))) : w.heap.size ≤ gb341)); have n7_ := Aside0.mk ((by rw [hg]; exact (below_size (by repeat (first | (with_reducible first | exact HB.out | apply below_alloc | apply pw_below_drewN | apply below_drew1 | refine below_set ?_ GE325.out | refine below_set ?_ GE326.out) | exact HB.out))) : w.heap.size ≤ gb341)); have n8_ := Aside0.mk ((by rw [hg]; exact Nat.ne_of_lt (blk_lt (g := gb325) (o := .cells #[.slice A0_0 l0_0.length c0_0] 24 (0, 0)) (by (with_reducible repeat (first | refine blk_drewN ?_ _ | refine blk_drew ?_ | refine blk_alloc ?_ _)); exact BK325.out)) : gb325 ≠ gb341)); have n9_ := Aside0.mk ((by rw [hg]; exact Nat.ne_of_gt (blk_lt (g := gb325) (o := .cells #[.slice A0_0 l0_0.length c0_0] 24 (0, 0)) (by (with_reducible repeat (first | refine blk_drewN ?_ _ | refine blk_drew ?_ | refine blk_alloc ?_ _)); exact BK325.out)) : gb341 ≠ gb325)); have n10_ := Aside0.mk ((by rw [hg]; exact Nat.ne_of_lt (blk_lt (g := gb326) (o := .cells #[.int .i64 a1_0, .int .i64 a1_1, .int .i64 a1_2] 26 (0, 0)) (by (with_reducible repeat (first | refine blk_drewN ?_ _ | refine blk_drew ?_ | refine blk_alloc ?_ _)); exact BK326.out)) : gb326 ≠ gb341)); have n11_ := Aside0.mk ((by rw [hg]; exact Nat.ne_of_gt (blk_lt (g := gb326) (o := .cells #[.int .i64 a1_0, .int .i64 a1_1, .int .i64 a1_2] 26 (0, 0)) (by (with_reducible repeat (first | refine blk_drewN ?_ _ | refine blk_drew ?_ | refine blk_alloc ?_ _)); exact BK326.out)) : gb341 ≠ gb326)); clear HO_326000; clear HO338; clear BK325; clear BK326; clear HB; have HO_326000 := n0_; have HO338 := n1_; have BK325 := n2_; have BK326 := n3_; have HB := n4_; have BK341 := n5_; have GW341 := n6_; have GE341 := n7_; have NB325_341 := n8_; have NB341_325 := n9_; have NB326_341 := n10_; have NB341_326 := n11_; clear n0_ n1_ n2_ n3_ n4_ n5_ n6_ n7_ n8_ n9_ n10_ n11_; clear hb hbox hg; obtain ⟨Ao37, co37, eo37⟩ := Kd.R_slice HO338.out; subst eo37; have hnb38 := NB341_325.out; have hnc38 := NB325_341.out; have hnb39 := NB341_326.out; have hnc39 := NB326_341.out; have hcz40_0 : w36.cell? ⟨gb341, 0, none⟩ = some (.slice none 0 0) := (blk_cell BK341.out 0).trans rfl; have hfz40_0 := blk_frozen BK341.out 0; have hcz41_0 : w36.cell? ⟨gb325, 0, none⟩ = some (.slice A0_0 l0_0.length c0_0) := (blk_cell BK325.out 0).trans rfl; have hfz41_0 := blk_frozen BK325.out 0; have hcz42_0 : w36.cell? ⟨gb326, 0, none⟩ = some (.int .i64 a1_0) := (blk_cell BK326.out 0).trans rfl; have hcz42_1 : w36.cell? ⟨gb326, 1, none⟩ = some (.int .i64 a1_1) := (blk_cell BK326.out 1).trans rfl; have hcz42_2 : w36.cell? ⟨gb326, 2, none⟩ = some (.int .i64 a1_2) := (blk_cell BK326.out 2).trans rfl; have hfz42_0 := blk_frozen BK326.out 0; have hfz42_1 := blk_frozen BK326.out 1; have hfz42_2 := blk_frozen BK326.out 2) | ((with_reducible refine gate_callee (f := 22) rfl ?_); refine goesL_ (some 33) rfl rfl Tryd.func22 (by kernel_rfl) rfl #[.agg #[.slice A0_0 l0_0.length c0_0], .agg #[.int .i64 a1_0, .int .i64 a1_1, .int .i64 a1_2]] rfl (by (try simp only [List.map_toArray, List.map_cons, List.map_nil]); first | done | rfl | (simp only [List.length_drop, List.length_take]; rfl)) ?_; (with_reducible refine (snowlineref02_Apply.calls kj4 _ _ l0_0 a1_0 a1_1 a1_2 t342 t345 t346 _ ?side1 ?side2 A28.out).mono ?_); (case side1 => refine (Kd.V_reads' (e := 48) (base := w.heap.size) (ok := fun k_ => ((((P0_0_ k_ ∨ w.heap.size ≤ k_) ∧ (k_ ≠ gb325 ∧ k_ ≠ gb326)) ∧ some k_ ≠ (.slice Ao37 t336.length co37 : Value).ownBlock) ∧ k_ ≠ gb341)) (n := l0_0.length) (c := c0_0) ?_).2.2; exact (by (with_reducible repeat (first | apply Kd.V_alloc | apply Kd.V_drewN | apply Kd.V_drew)); exact (Kd.V_mono (Kd.V_far (p := ⟨gb341, 0, none⟩) (Kd.V_mono HO_326000.out (fun k_ hk => (⟨hk, hk.2⟩ : _ ∧ k_ ≠ gb341))) (fun _ hk => hk.2) (.slice Ao37 t336.length co37)) (fun _ h_ => h_.1)))); (case side2 => exact (Kd.V_reads' HO_326000.out).2.1); rintro e w43 ⟨v343, rfl, ho0, hb⟩; refine ⟨_, rfl, ?_⟩; have n0_ := Aside0.mk (Kd.V_elder' (by (with_reducible repeat (first | apply Kd.V_alloc | apply Kd.V_drewN | apply Kd.V_drew)); exact (Kd.V_mono (Kd.V_far (p := ⟨gb341, 0, none⟩) (Kd.V_mono HO_326000.out (fun k_ hk => (⟨hk, hk.2⟩ : _ ∧ k_ ≠ gb341))) (fun _ hk => hk.2) (.slice Ao37 t336.length co37)) (fun _ h_ => h_.1))) (Kd.R_base ho0) hb); have n1_ := Aside0.mk (Kd.R_elder' (by (with_reducible repeat (first | apply Kd.R_alloc | apply Kd.R_drewN | apply Kd.R_drew)); exact (Kd.R_mono (Kd.R_far (p := ⟨gb341, 0, none⟩) (Kd.R_types HO338.out BK341.out (by decide)) (fun _ hk => hk.2) (.slice Ao37 t336.length co37)) (fun _ h_ => h_.1))) (Kd.R_base ho0) hb); have n2_ := Aside0.mk (Kd.R_lower (Kd.R_new' (Kd.R_newM (M := fun k_ => (w.heap.size ≤ k_)) ho0 (below_size (by repeat (first | (with_reducible first | exact HB.out | apply below_alloc | apply pw_below_drewN | apply below_drew1 | refine below_set ?_ GE325.out | refine below_set ?_ GE326.out | refine below_set ?_ GE341.out) | exact HB.out))) (fun k_ h_ => h_)) (Kd.R_lt (by (with_reducible repeat (first | apply Kd.R_alloc | apply Kd.R_drewN | apply Kd.R_drew)); exact (Kd.R_mono (Kd.R_far (p := ⟨gb341, 0, none⟩) (Kd.R_types HO338.out BK341.out (by decide)) (fun _ hk => hk.2) (.slice Ao37 t336.length co37)) (fun _ h_ => h_.1))))) (below_size (by repeat (first | (with_reducible first | exact HB.out | apply below_alloc | apply pw_below_drewN | apply below_drew1 | refine below_set ?_ GE325.out | refine below_set ?_ GE326.out | refine below_set ?_ GE341.out) | exact HB.out)))); have n3_ := Aside0.mk (blk_below (g := gb325) (o := .cells #[.slice A0_0 l0_0.length c0_0] 24 (0, 0)) (by (with_reducible repeat (first | refine blk_drewN ?_ _ | refine blk_drew ?_ | refine blk_alloc ?_ _)); refine blk_far ?_ NB325_341.out _; (with_reducible repeat (first | refine blk_drewN ?_ _ | refine blk_drew ?_ | refine blk_alloc ?_ _)); exact BK325.out) hb); have n4_ := Aside0.mk (blk_below (g := gb326) (o := .cells #[.int .i64 a1_0, .int .i64 a1_1, .int .i64 a1_2] 26 (0, 0)) (by (with_reducible repeat (first | refine blk_drewN ?_ _ | refine blk_drew ?_ | refine blk_alloc ?_ _)); refine blk_far ?_ NB326_341.out _; (with_reducible repeat (first | refine blk_drewN ?_ _ | refine blk_drew ?_ | refine blk_alloc ?_ _)); exact BK326.out) hb); have n5_ := Aside0.mk (blk_below (g := gb341) (o := .cells #[.slice Ao37 t336.length co37] 24 (0, 0)) (by (with_reducible repeat (first | refine blk_drewN ?_ _ | refine blk_drew ?_ | refine blk_alloc ?_ _)); refine blk_put (cs := #[.slice none 0 0]) ?_ 0 _ rfl; (with_reducible repeat (first | refine blk_drewN ?_ _ | refine blk_drew ?_ | refine blk_alloc ?_ _)); exact BK341.out) hb); have n6_ := Aside0.mk (below_step (by repeat (first | (with_reducible first | exact HB.out | apply below_alloc | apply pw_below_drewN | apply below_drew1 | refine below_set ?_ GE325.out | refine below_set ?_ GE326.out | refine below_set ?_ GE341.out) | exact HB.out)) hb); clear HO_326000; clear HO338; clear BK325; clear BK326; clear BK341; clear HB; have HO_326000 := n0_; have HO338 := n1_; have HO344 := n2_; have BK325 := n3_; have BK326 := n4_; have BK341 := n5_; have HB := n6_; clear n0_ n1_ n2_ n3_ n4_ n5_ n6_; (try clear hb); (try clear hb2); (try clear hk); (try clear hi); (try clear ho0)) | ((with_reducible refine gate_dst (N := 8) rfl ?_); (try (refine gate_guard (by rfl) ?_; dsimp only)); refine box_event ?hg (N := 8) ?hd (cs := #[.slice none 0 0]) (t := 24) ?hr ?_; (case hd => rfl); (case hg => rfl); (case hr => first | (go_simp; done) | (go_simp; rfl)); intro gb347 hg w44 hbox hb; have n0_ := Aside0.mk (Kd.V_below (Kd.V_elderB (by (with_reducible repeat (first | apply Kd.V_alloc | apply Kd.V_drewN | apply Kd.V_drew)); exact HO_326000.out) gb347 (Nat.le_of_eq hg.symm)) hb); have n1_ := Aside0.mk (Kd.R_below (by (with_reducible repeat (first | apply Kd.R_alloc | apply Kd.R_drewN | apply Kd.R_drew)); exact HO338.out) hb); have n2_ := Aside0.mk (Kd.R_below (by (with_reducible repeat (first | apply Kd.R_alloc | apply Kd.R_drewN | apply Kd.R_drew)); exact HO344.out) hb); have n3_ := Aside0.mk (blk_below (g := gb325) (o := .cells #[.slice A0_0 l0_0.length c0_0] 24 (0, 0)) (by (with_reducible repeat (first | refine blk_drewN ?_ _ | refine blk_drew ?_ | refine blk_alloc ?_ _)); exact BK325.out) hb); have n4_ := Aside0.mk (blk_below (g := gb326) (o := .cells #[.int .i64 a1_0, .int .i64 a1_1, .int .i64 a1_2] 26 (0, 0)) (by (with_reducible repeat (first | refine blk_drewN ?_ _ | refine blk_drew ?_ | refine blk_alloc ?_ _)); exact BK326.out) hb); have n5_ := Aside0.mk (blk_below (g := gb341) (o := .cells #[.slice Ao37 t336.length co37] 24 (0, 0)) (by (with_reducible repeat (first | refine blk_drewN ?_ _ | refine blk_drew ?_ | refine blk_alloc ?_ _)); exact BK341.out) hb); have n6_ := Aside0.mk (below_step (by repeat (first | (with_reducible first | exact HB.out | apply below_alloc | apply pw_below_drewN | apply below_drew1 | refine below_set ?_ GE325.out | refine below_set ?_ GE326.out | refine below_set ?_ GE341.out) | exact HB.out)) hb); have n7_ := Aside0.mk (hbox); have n8_ := Aside0.mk ((by rw [hg]; exact (below_size (by repeat (first | (with_reducible first | exact HB.out | apply below_alloc | apply pw_below_drewN | apply below_drew1 | refine below_set ?_ GE325.out | refine below_set ?_ GE326.out | refine below_set ?_ GE341.out) | exact HB.out))) : w.heap.size ≤ gb347)); have n9_ := Aside0.mk ((by rw [hg]; exact (below_size (by repeat (first | (with_reducible first | exact HB.out | apply below_alloc | apply pw_below_drewN | apply below_drew1 | refine below_set ?_ GE325.out | refine below_set ?_ GE326.out | refine below_set ?_ GE341.out) | exact HB.out))) : w.heap.size ≤ gb347)); have n10_ := Aside0.mk ((by rw [hg]; exact Nat.ne_of_lt (blk_lt (g := gb325) (o := .cells #[.slice A0_0 l0_0.length c0_0] 24 (0, 0)) (by (with_reducible repeat (first | refine blk_drewN ?_ _ | refine blk_drew ?_ | refine blk_alloc ?_ _)); exact BK325.out)) : gb325 ≠ gb347)); have n11_ := Aside0.mk ((by rw [hg]; exact Nat.ne_of_gt (blk_lt (g := gb325) (o := .cells #[.slice A0_0 l0_0.length c0_0] 24 (0, 0)) (by (with_reducible repeat (first | refine blk_drewN ?_ _ | refine blk_drew ?_ | refine blk_alloc ?_ _)); exact BK325.out)) : gb347 ≠ gb325)); have n12_ := Aside0.mk ((by rw [hg]; exact Nat.ne_of_lt (blk_lt (g := gb326) (o := .cells #[.int .i64 a1_0, .int .i64 a1_1, .int .i64 a1_2] 26 (0, 0)) (by (with_reducible repeat (first | refine blk_drewN ?_ _ | refine blk_drew ?_ | refine blk_alloc ?_ _)); exact BK326.out)) : gb326 ≠ gb347)); have n13_ := Aside0.mk ((by rw [hg]; exact Nat.ne_of_gt (blk_lt (g := gb326) (o := .cells #[.int .i64 a1_0, .int .i64 a1_1, .int .i64 a1_2] 26 (0, 0)) (by (with_reducible repeat (first | refine blk_drewN ?_ _ | refine blk_drew ?_ | refine blk_alloc ?_ _)); exact BK326.out)) : gb347 ≠ gb326)); have n14_ := Aside0.mk ((by rw [hg]; exact Nat.ne_of_lt (blk_lt (g := gb341) (o := .cells #[.slice Ao37 t336.length co37] 24 (0, 0)) (by (with_reducible repeat (first | refine blk_drewN ?_ _ | refine blk_drew ?_ | refine blk_alloc ?_ _)); exact BK341.out)) : gb341 ≠ gb347)); have n15_ := Aside0.mk ((by rw [hg]; exact Nat.ne_of_gt (blk_lt (g := gb341) (o := .cells #[.slice Ao37 t336.length co37] 24 (0, 0)) (by (with_reducible repeat (first | refine blk_drewN ?_ _ | refine blk_drew ?_ | refine blk_alloc ?_ _)); exact BK341.out)) : gb347 ≠ gb341)); clear HO_326000; clear HO338; clear HO344; clear BK325; clear BK326; clear BK341; clear HB; have HO_326000 := n0_; have HO338 := n1_; have HO344 := n2_; have BK325 := n3_; have BK326 := n4_; have BK341 := n5_; have HB := n6_; have BK347 := n7_; have GW347 := n8_; have GE347 := n9_; have NB325_347 := n10_; have NB347_325 := n11_; have NB326_347 := n12_; have NB347_326 := n13_; have NB341_347 := n14_; have NB347_341 := n15_; clear n0_ n1_ n2_ n3_ n4_ n5_ n6_ n7_ n8_ n9_ n10_ n11_ n12_ n13_ n14_ n15_; clear hb hbox hg; obtain ⟨Ao45, co45, eo45⟩ := Kd.R_slice HO344.out; subst eo45; have hnb46 := NB347_325.out; have hnc46 := NB325_347.out; have hnb47 := NB347_326.out; have hnc47 := NB326_347.out; have hnb48 := NB347_341.out; have hnc48 := NB341_347.out; have hcz49_0 : w44.cell? ⟨gb347, 0, none⟩ = some (.slice none 0 0) := (blk_cell BK347.out 0).trans rfl; have hfz49_0 := blk_frozen BK347.out 0; have hcz50_0 : w44.cell? ⟨gb341, 0, none⟩ = some (.slice Ao37 t336.length co37) := (blk_cell BK341.out 0).trans rfl; have hfz50_0 := blk_frozen BK341.out 0) | ((with_reducible refine gate_callee (f := 23) rfl ?_); refine goesL_ (some 39) rfl rfl Tryd.func23 (by kernel_rfl) rfl #[.agg #[.slice Ao37 t336.length co37], .agg #[.slice Ao45 t342.length co45]] rfl (by (try simp only [List.map_toArray, List.map_cons, List.map_nil]); first | done | rfl | (simp only [List.length_drop, List.length_take]; rfl)) ?_; (with_reducible refine (snowlineref02_Same.calls kj4 _ _ t336 _ _ t342 true _ ?side1 ?side2 ?side3 ?side4 A29.out).mono ?_); (case side1 => refine (Kd.R_reads' (e := 48) (base := w.heap.size) (ok := fun k_ => (((w.heap.size ≤ k_) ∧ True) ∧ some k_ ≠ (.slice Ao45 t342.length co45 : Value).ownBlock)) (n := t336.length) (c := co37) ?_).2.2; exact (by (with_reducible repeat (first | apply Kd.R_alloc | apply Kd.R_drewN | apply Kd.R_drew)); exact (Kd.R_mono (Kd.R_far (p := ⟨gb347, 0, none⟩) (Kd.R_types HO338.out BK347.out (by decide)) (fun _ hk => hk.2) (.slice Ao45 t342.length co45)) (fun _ h_ => h_.1)))); (case side2 => exact (Kd.R_reads' HO338.out).2.1); (case side3 => refine (Kd.R_reads' (e := 48) (base := w.heap.size) (ok := fun k_ => (((w.heap.size ≤ k_) ∧ True) ∧ some k_ ≠ (.slice Ao37 t336.length co37 : Value).ownBlock)) (n := t342.length) (c := co45) ?_).2.2; exact (by (with_reducible repeat (first | apply Kd.R_alloc | apply Kd.R_drewN | apply Kd.R_drew)); exact (Kd.R_mono (Kd.R_far (p := ⟨gb347, 0, none⟩) (Kd.R_types HO344.out BK347.out (by decide)) (fun _ hk => hk.2) (.slice Ao45 t342.length co45)) (fun _ h_ => h_.1)))); (case side4 => exact (Kd.R_reads' HO344.out).2.1); rintro e w51 ⟨rfl, hb⟩; refine ⟨_, rfl, ?_⟩; have n0_ := Aside0.mk (Kd.V_below (by (with_reducible repeat (first | apply Kd.V_alloc | apply Kd.V_drewN | apply Kd.V_drew)); exact (Kd.V_mono (Kd.V_far (p := ⟨gb347, 0, none⟩) (Kd.V_mono HO_326000.out (fun k_ hk => (⟨hk, hk.2⟩ : _ ∧ k_ ≠ gb347))) (fun _ hk => hk.2) (.slice Ao45 t342.length co45)) (fun _ h_ => h_.1))) hb); have n1_ := Aside0.mk (Kd.R_below (by (with_reducible repeat (first | apply Kd.R_alloc | apply Kd.R_drewN | apply Kd.R_drew)); exact (Kd.R_mono (Kd.R_far (p := ⟨gb347, 0, none⟩) (Kd.R_types HO338.out BK347.out (by decide)) (fun _ hk => hk.2) (.slice Ao45 t342.length co45)) (fun _ h_ => h_.1))) hb); have n2_ := Aside0.mk (Kd.R_below (by (with_reducible repeat (first | apply Kd.R_alloc | apply Kd.R_drewN | apply Kd.R_drew)); exact (Kd.R_mono (Kd.R_far (p := ⟨gb347, 0, none⟩) (Kd.R_types HO344.out BK347.out (by decide)) (fun _ hk => hk.2) (.slice Ao45 t342.length co45)) (fun _ h_ => h_.1))) hb); have n3_ := Aside0.mk (blk_below (g := gb325) (o := .cells #[.slice A0_0 l0_0.length c0_0] 24 (0, 0)) (by (with_reducible repeat (first | refine blk_drewN ?_ _ | refine blk_drew ?_ | refine blk_alloc ?_ _)); refine blk_far ?_ NB325_347.out _; (with_reducible repeat (first | refine blk_drewN ?_ _ | refine blk_drew ?_ | refine blk_alloc ?_ _)); exact BK325.out) hb); have n4_ := Aside0.mk (blk_below (g := gb326) (o := .cells #[.int .i64 a1_0, .int .i64 a1_1, .int .i64 a1_2] 26 (0, 0)) (by (with_reducible repeat (first | refine blk_drewN ?_ _ | refine blk_drew ?_ | refine blk_alloc ?_ _)); refine blk_far ?_ NB326_347.out _; (with_reducible repeat (first | refine blk_drewN ?_ _ | refine blk_drew ?_ | refine blk_alloc ?_ _)); exact BK326.out) hb); have n5_ := Aside0.mk (blk_below (g := gb341) (o := .cells #[.slice Ao37 t336.length co37] 24 (0, 0)) (by (with_reducible repeat (first | refine blk_drewN ?_ _ | refine blk_drew ?_ | refine blk_alloc ?_ _)); refine blk_far ?_ NB341_347.out _; (with_reducible repeat (first | refine blk_drewN ?_ _ | refine blk_drew ?_ | refine blk_alloc ?_ _)); exact BK341.out) hb); have n6_ := Aside0.mk (blk_below (g := gb347) (o := .cells #[.slice Ao45 t342.length co45] 24 (0, 0)) (by (with_reducible repeat (first | refine blk_drewN ?_ _ | refine blk_drew ?_ | refine blk_alloc ?_ _)); refine blk_put (cs := #[.slice none 0 0]) ?_ 0 _ rfl; (with_reducible repeat (first | refine blk_drewN ?_ _ | refine blk_drew ?_ | refine blk_alloc ?_ _)); exact BK347.out) hb); have n7_ := Aside0.mk (below_step (by repeat (first | (with_reducible first | exact HB.out | apply below_alloc | apply pw_below_drewN | apply below_drew1 | refine below_set ?_ GE325.out | refine below_set ?_ GE326.out | refine below_set ?_ GE341.out | refine below_set ?_ GE347.out) | exact HB.out)) hb); clear HO_326000; clear HO338; clear HO344; clear BK325; clear BK326; clear BK341; clear BK347; clear HB; have HO_326000 := n0_; have HO338 := n1_; have HO344 := n2_; have BK325 := n3_; have BK326 := n4_; have BK341 := n5_; have BK347 := n6_; have HB := n7_; clear n0_ n1_ n2_ n3_ n4_ n5_ n6_ n7_; (try clear hb); (try clear hb2); (try clear hk); (try clear hi)))
              go_ret
              exact ⟨by first | rfl | (simp [errW_none, errW_some] <;> rfl) | (simp [*, errW_none, errW_some] <;> rfl), by repeat (first | (with_reducible first | exact HB.out | apply below_alloc | apply pw_below_drewN | apply below_drew1 | refine below_set ?_ GE325.out | refine below_set ?_ GE326.out | refine below_set ?_ GE341.out | refine below_set ?_ GE347.out) | exact HB.out)⟩
            · rw [if_neg c31] at H
              have c31b0 : (t339 == t345) = false := beq_eq_false_iff_ne.mpr c31
              have c31b1 : (t339 != t345) = true := bne_iff_ne.mpr c31
              obtain rfl := Option.some.inj H
              have hnb52 := NB325_326.out
              have hnc52 := NB326_325.out
              have hcz53_0 : wc.cell? ⟨gb325, 0, none⟩ = some (.slice A0_0 l0_0.length c0_0) := (blk_cell BK325.out 0).trans rfl
              have hfz53_0 := blk_frozen BK325.out 0
              have hcz54_0 : wc.cell? ⟨gb326, 0, none⟩ = some (.int .i64 a1_0) := (blk_cell BK326.out 0).trans rfl
              have hcz54_1 : wc.cell? ⟨gb326, 1, none⟩ = some (.int .i64 a1_1) := (blk_cell BK326.out 1).trans rfl
              have hcz54_2 : wc.cell? ⟨gb326, 2, none⟩ = some (.int .i64 a1_2) := (blk_cell BK326.out 2).trans rfl
              have hfz54_0 := blk_frozen BK326.out 0
              have hfz54_1 := blk_frozen BK326.out 1
              have hfz54_2 := blk_frozen BK326.out 2
              go_wp2_with (first | ((with_reducible refine gate_callee (f := 21) rfl ?_); refine goesL_ (some 26) rfl rfl Tryd.func21 (by kernel_rfl) rfl #[.agg #[.slice A0_0 l0_0.length c0_0], .agg #[.int .i64 a1_0, .int .i64 a1_1, .int .i64 a1_2]] rfl (by (try simp only [List.map_toArray, List.map_cons, List.map_nil]); first | done | rfl | (simp only [List.length_drop, List.length_take]; rfl)) ?_; (with_reducible refine (pack_Apply.calls _ _ l0_0 a1_0 a1_1 a1_2 t336 t339 t340 _ ?side1 ?side2 A27.out).mono ?_); (case side1 => repeat (first | exact (Kd.V_reads' HO_326000.out).2.2 | (with_reducible refine Kd.C_alloc ?_ _) | (with_reducible refine Kd.C_drewN ?_ _) | (with_reducible refine Kd.C_drew ?_))); (case side2 => exact (Kd.V_reads' HO_326000.out).2.1); rintro e w55 ⟨v337, rfl, ho0, hb⟩; refine ⟨_, rfl, ?_⟩; have n0_ := Aside0.mk (Kd.V_elder' (by (with_reducible repeat (first | apply Kd.V_alloc | apply Kd.V_drewN | apply Kd.V_drew)); exact HO_326000.out) (Kd.R_base ho0) hb); have n1_ := Aside0.mk (Kd.R_lower (Kd.R_newM (M := fun k_ => (w.heap.size ≤ k_)) ho0 (below_size (by repeat (first | (with_reducible first | exact HB.out | apply below_alloc | apply pw_below_drewN | apply below_drew1 | refine below_set ?_ GE325.out | refine below_set ?_ GE326.out) | exact HB.out))) (fun k_ h_ => h_)) (below_size (by repeat (first | (with_reducible first | exact HB.out | apply below_alloc | apply pw_below_drewN | apply below_drew1 | refine below_set ?_ GE325.out | refine below_set ?_ GE326.out) | exact HB.out)))); have n2_ := Aside0.mk (blk_below (g := gb325) (o := .cells #[.slice A0_0 l0_0.length c0_0] 24 (0, 0)) (by (with_reducible repeat (first | refine blk_drewN ?_ _ | refine blk_drew ?_ | refine blk_alloc ?_ _)); exact BK325.out) hb); have n3_ := Aside0.mk (blk_below (g := gb326) (o := .cells #[.int .i64 a1_0, .int .i64 a1_1, .int .i64 a1_2] 26 (0, 0)) (by (with_reducible repeat (first | refine blk_drewN ?_ _ | refine blk_drew ?_ | refine blk_alloc ?_ _)); exact BK326.out) hb); have n4_ := Aside0.mk (below_step (by repeat (first | (with_reducible first | exact HB.out | apply below_alloc | apply pw_below_drewN | apply below_drew1 | refine below_set ?_ GE325.out | refine below_set ?_ GE326.out) | exact HB.out)) hb); clear HO_326000; clear BK325; clear BK326; clear HB; have HO_326000 := n0_; have HO338 := n1_; have BK325 := n2_; have BK326 := n3_; have HB := n4_; clear n0_ n1_ n2_ n3_ n4_; (try clear hb); (try clear hb2); (try clear hk); (try clear hi); (try clear ho0)) | ((with_reducible refine gate_dst (N := 5) rfl ?_); (try (refine gate_guard (by rfl) ?_; dsimp only)); refine box_event ?hg (N := 5) ?hd (cs := #[.slice none 0 0]) (t := 24) ?hr ?_; (case hd => rfl); (case hg => rfl); (case hr => first | (go_simp; done) | (go_simp; rfl)); intro gb341 hg w56 hbox hb; have n0_ := Aside0.mk (Kd.V_below (Kd.V_elderB (by (with_reducible repeat (first | apply Kd.V_alloc | apply Kd.V_drewN | apply Kd.V_drew)); exact HO_326000.out) gb341 (Nat.le_of_eq hg.symm)) hb); have n1_ := Aside0.mk (Kd.R_below (by (with_reducible repeat (first | apply Kd.R_alloc | apply Kd.R_drewN | apply Kd.R_drew)); exact HO338.out) hb); have n2_ := Aside0.mk (blk_below (g := gb325) (o := .cells #[.slice A0_0 l0_0.length c0_0] 24 (0, 0)) (by (with_reducible repeat (first | refine blk_drewN ?_ _ | refine blk_drew ?_ | refine blk_alloc ?_ _)); exact BK325.out) hb); have n3_ := Aside0.mk (blk_below (g := gb326) (o := .cells #[.int .i64 a1_0, .int .i64 a1_1, .int .i64 a1_2] 26 (0, 0)) (by (with_reducible repeat (first | refine blk_drewN ?_ _ | refine blk_drew ?_ | refine blk_alloc ?_ _)); exact BK326.out) hb); have n4_ := Aside0.mk (below_step (by repeat (first | (with_reducible first | exact HB.out | apply below_alloc | apply pw_below_drewN | apply below_drew1 | refine below_set ?_ GE325.out | refine below_set ?_ GE326.out) | exact HB.out)) hb); have n5_ := Aside0.mk (hbox); have n6_ := Aside0.mk ((by rw [hg]; exact (below_size (by repeat (first | (with_reducible first | exact HB.out | apply below_alloc | apply pw_below_drewN | apply below_drew1 | refine below_set ?_ GE325.out | refine below_set ?_ GE326.out) | exact HB.out))) : w.heap.size ≤ gb341)); have n7_ := Aside0.mk ((by rw [hg]; exact (below_size (by repeat (first | (with_reducible first | exact HB.out | apply below_alloc | apply pw_below_drewN | apply below_drew1 | refine below_set ?_ GE325.out | refine below_set ?_ GE326.out) | exact HB.out))) : w.heap.size ≤ gb341)); have n8_ := Aside0.mk ((by rw [hg]; exact Nat.ne_of_lt (blk_lt (g := gb325) (o := .cells #[.slice A0_0 l0_0.length c0_0] 24 (0, 0)) (by (with_reducible repeat (first | refine blk_drewN ?_ _ | refine blk_drew ?_ | refine blk_alloc ?_ _)); exact BK325.out)) : gb325 ≠ gb341)); have n9_ := Aside0.mk ((by rw [hg]; exact Nat.ne_of_gt (blk_lt (g := gb325) (o := .cells #[.slice A0_0 l0_0.length c0_0] 24 (0, 0)) (by (with_reducible repeat (first | refine blk_drewN ?_ _ | refine blk_drew ?_ | refine blk_alloc ?_ _)); exact BK325.out)) : gb341 ≠ gb325)); have n10_ := Aside0.mk ((by rw [hg]; exact Nat.ne_of_lt (blk_lt (g := gb326) (o := .cells #[.int .i64 a1_0, .int .i64 a1_1, .int .i64 a1_2] 26 (0, 0)) (by (with_reducible repeat (first | refine blk_drewN ?_ _ | refine blk_drew ?_ | refine blk_alloc ?_ _)); exact BK326.out)) : gb326 ≠ gb341)); have n11_ := Aside0.mk ((by rw [hg]; exact Nat.ne_of_gt (blk_lt (g := gb326) (o := .cells #[.int .i64 a1_0, .int .i64 a1_1, .int .i64 a1_2] 26 (0, 0)) (by (with_reducible repeat (first | refine blk_drewN ?_ _ | refine blk_drew ?_ | refine blk_alloc ?_ _)); exact BK326.out)) : gb341 ≠ gb326)); clear HO_326000; clear HO338; clear BK325; clear BK326; clear HB; have HO_326000 := n0_; have HO338 := n1_; have BK325 := n2_; have BK326 := n3_; have HB := n4_; have BK341 := n5_; have GW341 := n6_; have GE341 := n7_; have NB325_341 := n8_; have NB341_325 := n9_; have NB326_341 := n10_; have NB341_326 := n11_; clear n0_ n1_ n2_ n3_ n4_ n5_ n6_ n7_ n8_ n9_ n10_ n11_; clear hb hbox hg; obtain ⟨Ao57, co57, eo57⟩ := Kd.R_slice HO338.out; subst eo57; have hnb58 := NB341_325.out; have hnc58 := NB325_341.out; have hnb59 := NB341_326.out; have hnc59 := NB326_341.out; have hcz60_0 : w56.cell? ⟨gb341, 0, none⟩ = some (.slice none 0 0) := (blk_cell BK341.out 0).trans rfl; have hfz60_0 := blk_frozen BK341.out 0; have hcz61_0 : w56.cell? ⟨gb325, 0, none⟩ = some (.slice A0_0 l0_0.length c0_0) := (blk_cell BK325.out 0).trans rfl; have hfz61_0 := blk_frozen BK325.out 0; have hcz62_0 : w56.cell? ⟨gb326, 0, none⟩ = some (.int .i64 a1_0) := (blk_cell BK326.out 0).trans rfl; have hcz62_1 : w56.cell? ⟨gb326, 1, none⟩ = some (.int .i64 a1_1) := (blk_cell BK326.out 1).trans rfl; have hcz62_2 : w56.cell? ⟨gb326, 2, none⟩ = some (.int .i64 a1_2) := (blk_cell BK326.out 2).trans rfl; have hfz62_0 := blk_frozen BK326.out 0; have hfz62_1 := blk_frozen BK326.out 1; have hfz62_2 := blk_frozen BK326.out 2) | ((with_reducible refine gate_callee (f := 22) rfl ?_); refine goesL_ (some 33) rfl rfl Tryd.func22 (by kernel_rfl) rfl #[.agg #[.slice A0_0 l0_0.length c0_0], .agg #[.int .i64 a1_0, .int .i64 a1_1, .int .i64 a1_2]] rfl (by (try simp only [List.map_toArray, List.map_cons, List.map_nil]); first | done | rfl | (simp only [List.length_drop, List.length_take]; rfl)) ?_; (with_reducible refine (snowlineref02_Apply.calls kj4 _ _ l0_0 a1_0 a1_1 a1_2 t342 t345 t346 _ ?side1 ?side2 A28.out).mono ?_); (case side1 => refine (Kd.V_reads' (e := 48) (base := w.heap.size) (ok := fun k_ => ((((P0_0_ k_ ∨ w.heap.size ≤ k_) ∧ (k_ ≠ gb325 ∧ k_ ≠ gb326)) ∧ some k_ ≠ (.slice Ao57 t336.length co57 : Value).ownBlock) ∧ k_ ≠ gb341)) (n := l0_0.length) (c := c0_0) ?_).2.2; exact (by (with_reducible repeat (first | apply Kd.V_alloc | apply Kd.V_drewN | apply Kd.V_drew)); exact (Kd.V_mono (Kd.V_far (p := ⟨gb341, 0, none⟩) (Kd.V_mono HO_326000.out (fun k_ hk => (⟨hk, hk.2⟩ : _ ∧ k_ ≠ gb341))) (fun _ hk => hk.2) (.slice Ao57 t336.length co57)) (fun _ h_ => h_.1)))); (case side2 => exact (Kd.V_reads' HO_326000.out).2.1); rintro e w63 ⟨v343, rfl, ho0, hb⟩; refine ⟨_, rfl, ?_⟩; have n0_ := Aside0.mk (Kd.V_elder' (by (with_reducible repeat (first | apply Kd.V_alloc | apply Kd.V_drewN | apply Kd.V_drew)); exact (Kd.V_mono (Kd.V_far (p := ⟨gb341, 0, none⟩) (Kd.V_mono HO_326000.out (fun k_ hk => (⟨hk, hk.2⟩ : _ ∧ k_ ≠ gb341))) (fun _ hk => hk.2) (.slice Ao57 t336.length co57)) (fun _ h_ => h_.1))) (Kd.R_base ho0) hb); have n1_ := Aside0.mk (Kd.R_elder' (by (with_reducible repeat (first | apply Kd.R_alloc | apply Kd.R_drewN | apply Kd.R_drew)); exact (Kd.R_mono (Kd.R_far (p := ⟨gb341, 0, none⟩) (Kd.R_types HO338.out BK341.out (by decide)) (fun _ hk => hk.2) (.slice Ao57 t336.length co57)) (fun _ h_ => h_.1))) (Kd.R_base ho0) hb); have n2_ := Aside0.mk (Kd.R_lower (Kd.R_new' (Kd.R_newM (M := fun k_ => (w.heap.size ≤ k_)) ho0 (below_size (by repeat (first | (with_reducible first | exact HB.out | apply below_alloc | apply pw_below_drewN | apply below_drew1 | refine below_set ?_ GE325.out | refine below_set ?_ GE326.out | refine below_set ?_ GE341.out) | exact HB.out))) (fun k_ h_ => h_)) (Kd.R_lt (by (with_reducible repeat (first | apply Kd.R_alloc | apply Kd.R_drewN | apply Kd.R_drew)); exact (Kd.R_mono (Kd.R_far (p := ⟨gb341, 0, none⟩) (Kd.R_types HO338.out BK341.out (by decide)) (fun _ hk => hk.2) (.slice Ao57 t336.length co57)) (fun _ h_ => h_.1))))) (below_size (by repeat (first | (with_reducible first | exact HB.out | apply below_alloc | apply pw_below_drewN | apply below_drew1 | refine below_set ?_ GE325.out | refine below_set ?_ GE326.out | refine below_set ?_ GE341.out) | exact HB.out)))); have n3_ := Aside0.mk (blk_below (g := gb325) (o := .cells #[.slice A0_0 l0_0.length c0_0] 24 (0, 0)) (by (with_reducible repeat (first | refine blk_drewN ?_ _ | refine blk_drew ?_ | refine blk_alloc ?_ _)); refine blk_far ?_ NB325_341.out _; (with_reducible repeat (first | refine blk_drewN ?_ _ | refine blk_drew ?_ | refine blk_alloc ?_ _)); exact BK325.out) hb); have n4_ := Aside0.mk (blk_below (g := gb326) (o := .cells #[.int .i64 a1_0, .int .i64 a1_1, .int .i64 a1_2] 26 (0, 0)) (by (with_reducible repeat (first | refine blk_drewN ?_ _ | refine blk_drew ?_ | refine blk_alloc ?_ _)); refine blk_far ?_ NB326_341.out _; (with_reducible repeat (first | refine blk_drewN ?_ _ | refine blk_drew ?_ | refine blk_alloc ?_ _)); exact BK326.out) hb); have n5_ := Aside0.mk (blk_below (g := gb341) (o := .cells #[.slice Ao57 t336.length co57] 24 (0, 0)) (by (with_reducible repeat (first | refine blk_drewN ?_ _ | refine blk_drew ?_ | refine blk_alloc ?_ _)); refine blk_put (cs := #[.slice none 0 0]) ?_ 0 _ rfl; (with_reducible repeat (first | refine blk_drewN ?_ _ | refine blk_drew ?_ | refine blk_alloc ?_ _)); exact BK341.out) hb); have n6_ := Aside0.mk (below_step (by repeat (first | (with_reducible first | exact HB.out | apply below_alloc | apply pw_below_drewN | apply below_drew1 | refine below_set ?_ GE325.out | refine below_set ?_ GE326.out | refine below_set ?_ GE341.out) | exact HB.out)) hb); clear HO_326000; clear HO338; clear BK325; clear BK326; clear BK341; clear HB; have HO_326000 := n0_; have HO338 := n1_; have HO344 := n2_; have BK325 := n3_; have BK326 := n4_; have BK341 := n5_; have HB := n6_; clear n0_ n1_ n2_ n3_ n4_ n5_ n6_; (try clear hb); (try clear hb2); (try clear hk); (try clear hi); (try clear ho0)) | ((with_reducible refine gate_dst (N := 8) rfl ?_); (try (refine gate_guard (by rfl) ?_; dsimp only)); refine box_event ?hg (N := 8) ?hd (cs := #[.slice none 0 0]) (t := 24) ?hr ?_; (case hd => rfl); (case hg => rfl); (case hr => first | (go_simp; done) | (go_simp; rfl)); intro gb347 hg w64 hbox hb; have n0_ := Aside0.mk (Kd.V_below (Kd.V_elderB (by (with_reducible repeat (first | apply Kd.V_alloc | apply Kd.V_drewN | apply Kd.V_drew)); exact HO_326000.out) gb347 (Nat.le_of_eq hg.symm)) hb); have n1_ := Aside0.mk (Kd.R_below (by (with_reducible repeat (first | apply Kd.R_alloc | apply Kd.R_drewN | apply Kd.R_drew)); exact HO338.out) hb); have n2_ := Aside0.mk (Kd.R_below (by (with_reducible repeat (first | apply Kd.R_alloc | apply Kd.R_drewN | apply Kd.R_drew)); exact HO344.out) hb); have n3_ := Aside0.mk (blk_below (g := gb325) (o := .cells #[.slice A0_0 l0_0.length c0_0] 24 (0, 0)) (by (with_reducible repeat (first | refine blk_drewN ?_ _ | refine blk_drew ?_ | refine blk_alloc ?_ _)); exact BK325.out) hb); have n4_ := Aside0.mk (blk_below (g := gb326) (o := .cells #[.int .i64 a1_0, .int .i64 a1_1, .int .i64 a1_2] 26 (0, 0)) (by (with_reducible repeat (first | refine blk_drewN ?_ _ | refine blk_drew ?_ | refine blk_alloc ?_ _)); exact BK326.out) hb); have n5_ := Aside0.mk (blk_below (g := gb341) (o := .cells #[.slice Ao57 t336.length co57] 24 (0, 0)) (by (with_reducible repeat (first | refine blk_drewN ?_ _ | refine blk_drew ?_ | refine blk_alloc ?_ _)); exact BK341.out) hb); have n6_ := Aside0.mk (below_step (by repeat (first | (with_reducible first | exact HB.out | apply below_alloc | apply pw_below_drewN | apply below_drew1 | refine below_set ?_ GE325.out | refine below_set ?_ GE326.out | refine below_set ?_ GE341.out) | exact HB.out)) hb); have n7_ := Aside0.mk (hbox); have n8_ := Aside0.mk ((by rw [hg]; exact (below_size (by repeat (first | (with_reducible first | exact HB.out | apply below_alloc | apply pw_below_drewN | apply below_drew1 | refine below_set ?_ GE325.out | refine below_set ?_ GE326.out | refine below_set ?_ GE341.out) | exact HB.out))) : w.heap.size ≤ gb347)); have n9_ := Aside0.mk ((by rw [hg]; exact (below_size (by repeat (first | (with_reducible first | exact HB.out | apply below_alloc | apply pw_below_drewN | apply below_drew1 | refine below_set ?_ GE325.out | refine below_set ?_ GE326.out | refine below_set ?_ GE341.out) | exact HB.out))) : w.heap.size ≤ gb347)); have n10_ := Aside0.mk ((by rw [hg]; exact Nat.ne_of_lt (blk_lt (g := gb325) (o := .cells #[.slice A0_0 l0_0.length c0_0] 24 (0, 0)) (by (with_reducible repeat (first | refine blk_drewN ?_ _ | refine blk_drew ?_ | refine blk_alloc ?_ _)); exact BK325.out)) : gb325 ≠ gb347)); have n11_ := Aside0.mk ((by rw [hg]; exact Nat.ne_of_gt (blk_lt (g := gb325) (o := .cells #[.slice A0_0 l0_0.length c0_0] 24 (0, 0)) (by (with_reducible repeat (first | refine blk_drewN ?_ _ | refine blk_drew ?_ | refine blk_alloc ?_ _)); exact BK325.out)) : gb347 ≠ gb325)); have n12_ := Aside0.mk ((by rw [hg]; exact Nat.ne_of_lt (blk_lt (g := gb326) (o := .cells #[.int .i64 a1_0, .int .i64 a1_1, .int .i64 a1_2] 26 (0, 0)) (by (with_reducible repeat (first | refine blk_drewN ?_ _ | refine blk_drew ?_ | refine blk_alloc ?_ _)); exact BK326.out)) : gb326 ≠ gb347)); have n13_ := Aside0.mk ((by rw [hg]; exact Nat.ne_of_gt (blk_lt (g := gb326) (o := .cells #[.int .i64 a1_0, .int .i64 a1_1, .int .i64 a1_2] 26 (0, 0)) (by (with_reducible repeat (first | refine blk_drewN ?_ _ | refine blk_drew ?_ | refine blk_alloc ?_ _)); exact BK326.out)) : gb347 ≠ gb326)); have n14_ := Aside0.mk ((by rw [hg]; exact Nat.ne_of_lt (blk_lt (g := gb341) (o := .cells #[.slice Ao57 t336.length co57] 24 (0, 0)) (by (with_reducible repeat (first | refine blk_drewN ?_ _ | refine blk_drew ?_ | refine blk_alloc ?_ _)); exact BK341.out)) : gb341 ≠ gb347)); have n15_ := Aside0.mk ((by rw [hg]; exact Nat.ne_of_gt (blk_lt (g := gb341) (o := .cells #[.slice Ao57 t336.length co57] 24 (0, 0)) (by (with_reducible repeat (first | refine blk_drewN ?_ _ | refine blk_drew ?_ | refine blk_alloc ?_ _)); exact BK341.out)) : gb347 ≠ gb341)); clear HO_326000; clear HO338; clear HO344; clear BK325; clear BK326; clear BK341; clear HB; have HO_326000 := n0_; have HO338 := n1_; have HO344 := n2_; have BK325 := n3_; have BK326 := n4_; have BK341 := n5_; have HB := n6_; have BK347 := n7_; have GW347 := n8_; have GE347 := n9_; have NB325_347 := n10_; have NB347_325 := n11_; have NB326_347 := n12_; have NB347_326 := n13_; have NB341_347 := n14_; have NB347_341 := n15_; clear n0_ n1_ n2_ n3_ n4_ n5_ n6_ n7_ n8_ n9_ n10_ n11_ n12_ n13_ n14_ n15_; clear hb hbox hg; obtain ⟨Ao65, co65, eo65⟩ := Kd.R_slice HO344.out; subst eo65; have hnb66 := NB347_325.out; have hnc66 := NB325_347.out; have hnb67 := NB347_326.out; have hnc67 := NB326_347.out; have hnb68 := NB347_341.out; have hnc68 := NB341_347.out; have hcz69_0 : w64.cell? ⟨gb347, 0, none⟩ = some (.slice none 0 0) := (blk_cell BK347.out 0).trans rfl; have hfz69_0 := blk_frozen BK347.out 0; have hcz70_0 : w64.cell? ⟨gb341, 0, none⟩ = some (.slice Ao57 t336.length co57) := (blk_cell BK341.out 0).trans rfl; have hfz70_0 := blk_frozen BK341.out 0) | ((with_reducible refine gate_callee (f := 23) rfl ?_); refine goesL_ (some 39) rfl rfl Tryd.func23 (by kernel_rfl) rfl #[.agg #[.slice Ao57 t336.length co57], .agg #[.slice Ao65 t342.length co65]] rfl (by (try simp only [List.map_toArray, List.map_cons, List.map_nil]); first | done | rfl | (simp only [List.length_drop, List.length_take]; rfl)) ?_; (with_reducible refine (snowlineref02_Same.calls kj4 _ _ t336 _ _ t342 true _ ?side1 ?side2 ?side3 ?side4 A29.out).mono ?_); (case side1 => refine (Kd.R_reads' (e := 48) (base := w.heap.size) (ok := fun k_ => (((w.heap.size ≤ k_) ∧ True) ∧ some k_ ≠ (.slice Ao65 t342.length co65 : Value).ownBlock)) (n := t336.length) (c := co57) ?_).2.2; exact (by (with_reducible repeat (first | apply Kd.R_alloc | apply Kd.R_drewN | apply Kd.R_drew)); exact (Kd.R_mono (Kd.R_far (p := ⟨gb347, 0, none⟩) (Kd.R_types HO338.out BK347.out (by decide)) (fun _ hk => hk.2) (.slice Ao65 t342.length co65)) (fun _ h_ => h_.1)))); (case side2 => exact (Kd.R_reads' HO338.out).2.1); (case side3 => refine (Kd.R_reads' (e := 48) (base := w.heap.size) (ok := fun k_ => (((w.heap.size ≤ k_) ∧ True) ∧ some k_ ≠ (.slice Ao57 t336.length co57 : Value).ownBlock)) (n := t342.length) (c := co65) ?_).2.2; exact (by (with_reducible repeat (first | apply Kd.R_alloc | apply Kd.R_drewN | apply Kd.R_drew)); exact (Kd.R_mono (Kd.R_far (p := ⟨gb347, 0, none⟩) (Kd.R_types HO344.out BK347.out (by decide)) (fun _ hk => hk.2) (.slice Ao65 t342.length co65)) (fun _ h_ => h_.1)))); (case side4 => exact (Kd.R_reads' HO344.out).2.1); rintro e w71 ⟨rfl, hb⟩; refine ⟨_, rfl, ?_⟩; have n0_ := Aside0.mk (Kd.V_below (by (with_reducible repeat (first | apply Kd.V_alloc | apply Kd.V_drewN | apply Kd.V_drew)); exact (Kd.V_mono (Kd.V_far (p := ⟨gb347, 0, none⟩) (Kd.V_mono HO_326000.out (fun k_ hk => (⟨hk, hk.2⟩ : _ ∧ k_ ≠ gb347))) (fun _ hk => hk.2) (.slice Ao65 t342.length co65)) (fun _ h_ => h_.1))) hb); have n1_ := Aside0.mk (Kd.R_below (by (with_reducible repeat (first | apply Kd.R_alloc | apply Kd.R_drewN | apply Kd.R_drew)); exact (Kd.R_mono (Kd.R_far (p := ⟨gb347, 0, none⟩) (Kd.R_types HO338.out BK347.out (by decide)) (fun _ hk => hk.2) (.slice Ao65 t342.length co65)) (fun _ h_ => h_.1))) hb); have n2_ := Aside0.mk (Kd.R_below (by (with_reducible repeat (first | apply Kd.R_alloc | apply Kd.R_drewN | apply Kd.R_drew)); exact (Kd.R_mono (Kd.R_far (p := ⟨gb347, 0, none⟩) (Kd.R_types HO344.out BK347.out (by decide)) (fun _ hk => hk.2) (.slice Ao65 t342.length co65)) (fun _ h_ => h_.1))) hb); have n3_ := Aside0.mk (blk_below (g := gb325) (o := .cells #[.slice A0_0 l0_0.length c0_0] 24 (0, 0)) (by (with_reducible repeat (first | refine blk_drewN ?_ _ | refine blk_drew ?_ | refine blk_alloc ?_ _)); refine blk_far ?_ NB325_347.out _; (with_reducible repeat (first | refine blk_drewN ?_ _ | refine blk_drew ?_ | refine blk_alloc ?_ _)); exact BK325.out) hb); have n4_ := Aside0.mk (blk_below (g := gb326) (o := .cells #[.int .i64 a1_0, .int .i64 a1_1, .int .i64 a1_2] 26 (0, 0)) (by (with_reducible repeat (first | refine blk_drewN ?_ _ | refine blk_drew ?_ | refine blk_alloc ?_ _)); refine blk_far ?_ NB326_347.out _; (with_reducible repeat (first | refine blk_drewN ?_ _ | refine blk_drew ?_ | refine blk_alloc ?_ _)); exact BK326.out) hb); have n5_ := Aside0.mk (blk_below (g := gb341) (o := .cells #[.slice Ao57 t336.length co57] 24 (0, 0)) (by (with_reducible repeat (first | refine blk_drewN ?_ _ | refine blk_drew ?_ | refine blk_alloc ?_ _)); refine blk_far ?_ NB341_347.out _; (with_reducible repeat (first | refine blk_drewN ?_ _ | refine blk_drew ?_ | refine blk_alloc ?_ _)); exact BK341.out) hb); have n6_ := Aside0.mk (blk_below (g := gb347) (o := .cells #[.slice Ao65 t342.length co65] 24 (0, 0)) (by (with_reducible repeat (first | refine blk_drewN ?_ _ | refine blk_drew ?_ | refine blk_alloc ?_ _)); refine blk_put (cs := #[.slice none 0 0]) ?_ 0 _ rfl; (with_reducible repeat (first | refine blk_drewN ?_ _ | refine blk_drew ?_ | refine blk_alloc ?_ _)); exact BK347.out) hb); have n7_ := Aside0.mk (below_step (by repeat (first | (with_reducible first | exact HB.out | apply below_alloc | apply pw_below_drewN | apply below_drew1 | refine below_set ?_ GE325.out | refine below_set ?_ GE326.out | refine below_set ?_ GE341.out | refine below_set ?_ GE347.out) | exact HB.out)) hb); clear HO_326000; clear HO338; clear HO344; clear BK325; clear BK326; clear BK341; clear BK347; clear HB; have HO_326000 := n0_; have HO338 := n1_; have HO344 := n2_; have BK325 := n3_; have BK326 := n4_; have BK341 := n5_; have BK347 := n6_; have HB := n7_; clear n0_ n1_ n2_ n3_ n4_ n5_ n6_ n7_; (try clear hb); (try clear hb2); (try clear hk); (try clear hi)))
              go_ret
              exact ⟨by first | rfl | (simp [errW_none, errW_some] <;> rfl) | (simp [*, errW_none, errW_some] <;> rfl), by repeat (first | (with_reducible first | exact HB.out | apply below_alloc | apply pw_below_drewN | apply below_drew1 | refine below_set ?_ GE325.out | refine below_set ?_ GE326.out | refine below_set ?_ GE341.out | refine below_set ?_ GE347.out) | exact HB.out)⟩
          · replace c30 := Bool.eq_false_iff.mpr c30
            subst c30
            have H1 : (some false) = some r := by rw [if_neg (show ¬ (false = true) by decide)] at H; exact H
            clear H
            have H := H1
            clear H1
            obtain rfl := Option.some.inj H
            have hnb72 := NB325_326.out
            have hnc72 := NB326_325.out
            have hcz73_0 : wc.cell? ⟨gb325, 0, none⟩ = some (.slice A0_0 l0_0.length c0_0) := (blk_cell BK325.out 0).trans rfl
            have hfz73_0 := blk_frozen BK325.out 0
            have hcz74_0 : wc.cell? ⟨gb326, 0, none⟩ = some (.int .i64 a1_0) := (blk_cell BK326.out 0).trans rfl
            have hcz74_1 : wc.cell? ⟨gb326, 1, none⟩ = some (.int .i64 a1_1) := (blk_cell BK326.out 1).trans rfl
            have hcz74_2 : wc.cell? ⟨gb326, 2, none⟩ = some (.int .i64 a1_2) := (blk_cell BK326.out 2).trans rfl
            have hfz74_0 := blk_frozen BK326.out 0
            have hfz74_1 := blk_frozen BK326.out 1
            have hfz74_2 := blk_frozen BK326.out 2
            go_wp2_with (first | ((with_reducible refine gate_callee (f := 21) rfl ?_); refine goesL_ (some 26) rfl rfl Tryd.func21 (by kernel_rfl) rfl #[.agg #[.slice A0_0 l0_0.length c0_0], .agg #[.int .i64 a1_0, .int .i64 a1_1, .int .i64 a1_2]] rfl (by (try simp only [List.map_toArray, List.map_cons, List.map_nil]); first | done | rfl | (simp only [List.length_drop, List.length_take]; rfl)) ?_; (with_reducible refine (pack_Apply.calls _ _ l0_0 a1_0 a1_1 a1_2 t336 t339 t340 _ ?side1 ?side2 A27.out).mono ?_); (case side1 => repeat (first | exact (Kd.V_reads' HO_326000.out).2.2 | (with_reducible refine Kd.C_alloc ?_ _) | (with_reducible refine Kd.C_drewN ?_ _) | (with_reducible refine Kd.C_drew ?_))); (case side2 => exact (Kd.V_reads' HO_326000.out).2.1); rintro e w75 ⟨v337, rfl, ho0, hb⟩; refine ⟨_, rfl, ?_⟩; have n0_ := Aside0.mk (Kd.V_elder' (by (with_reducible repeat (first | apply Kd.V_alloc | apply Kd.V_drewN | apply Kd.V_drew)); exact HO_326000.out) (Kd.R_base ho0) hb); have n1_ := Aside0.mk (Kd.R_lower (Kd.R_newM (M := fun k_ => (w.heap.size ≤ k_)) ho0 (below_size (by repeat (first | (with_reducible first | exact HB.out | apply below_alloc | apply pw_below_drewN | apply below_drew1 | refine below_set ?_ GE325.out | refine below_set ?_ GE326.out) | exact HB.out))) (fun k_ h_ => h_)) (below_size (by repeat (first | (with_reducible first | exact HB.out | apply below_alloc | apply pw_below_drewN | apply below_drew1 | refine below_set ?_ GE325.out | refine below_set ?_ GE326.out) | exact HB.out)))); have n2_ := Aside0.mk (blk_below (g := gb325) (o := .cells #[.slice A0_0 l0_0.length c0_0] 24 (0, 0)) (by (with_reducible repeat (first | refine blk_drewN ?_ _ | refine blk_drew ?_ | refine blk_alloc ?_ _)); exact BK325.out) hb); have n3_ := Aside0.mk (blk_below (g := gb326) (o := .cells #[.int .i64 a1_0, .int .i64 a1_1, .int .i64 a1_2] 26 (0, 0)) (by (with_reducible repeat (first | refine blk_drewN ?_ _ | refine blk_drew ?_ | refine blk_alloc ?_ _)); exact BK326.out) hb); have n4_ := Aside0.mk (below_step (by repeat (first | (with_reducible first | exact HB.out | apply below_alloc | apply pw_below_drewN | apply below_drew1 | refine below_set ?_ GE325.out | refine below_set ?_ GE326.out) | exact HB.out)) hb); clear HO_326000; clear BK325; clear BK326; clear HB; have HO_326000 := n0_; have HO338 := n1_; have BK325 := n2_; have BK326 := n3_; have HB := n4_; clear n0_ n1_ n2_ n3_ n4_; (try clear hb); (try clear hb2); (try clear hk); (try clear hi); (try clear ho0)) | ((with_reducible refine gate_dst (N := 5) rfl ?_); (try (refine gate_guard (by rfl) ?_; dsimp only)); refine box_event ?hg (N := 5) ?hd (cs := #[.slice none 0 0]) (t := 24) ?hr ?_; (case hd => rfl); (case hg => rfl); (case hr => first | (go_simp; done) | (go_simp; rfl)); intro gb341 hg w76 hbox hb; have n0_ := Aside0.mk (Kd.V_below (Kd.V_elderB (by (with_reducible repeat (first | apply Kd.V_alloc | apply Kd.V_drewN | apply Kd.V_drew)); exact HO_326000.out) gb341 (Nat.le_of_eq hg.symm)) hb); have n1_ := Aside0.mk (Kd.R_below (by (with_reducible repeat (first | apply Kd.R_alloc | apply Kd.R_drewN | apply Kd.R_drew)); exact HO338.out) hb); have n2_ := Aside0.mk (blk_below (g := gb325) (o := .cells #[.slice A0_0 l0_0.length c0_0] 24 (0, 0)) (by (with_reducible repeat (first | refine blk_drewN ?_ _ | refine blk_drew ?_ | refine blk_alloc ?_ _)); exact BK325.out) hb); have n3_ := Aside0.mk (blk_below (g := gb326) (o := .cells #[.int .i64 a1_0, .int .i64 a1_1, .int .i64 a1_2] 26 (0, 0)) (by (with_reducible repeat (first | refine blk_drewN ?_ _ | refine blk_drew ?_ | refine blk_alloc ?_ _)); exact BK326.out) hb); have n4_ := Aside0.mk (below_step (by repeat (first | (with_reducible first | exact HB.out | apply below_alloc | apply pw_below_drewN | apply below_drew1 | refine below_set ?_ GE325.out | refine below_set ?_ GE326.out) | exact HB.out)) hb); have n5_ := Aside0.mk (hbox); have n6_ := Aside0.mk ((by rw [hg]; exact (below_size (by repeat (first | (with_reducible first | exact HB.out | apply below_alloc | apply pw_below_drewN | apply below_drew1 | refine below_set ?_ GE325.out | refine below_set ?_ GE326.out) | exact HB.out))) : w.heap.size ≤ gb341)); have n7_ := Aside0.mk ((by rw [hg]; exact (below_size (by repeat (first | (with_reducible first | exact HB.out | apply below_alloc | apply pw_below_drewN | apply below_drew1 | refine below_set ?_ GE325.out | refine below_set ?_ GE326.out) | exact HB.out))) : w.heap.size ≤ gb341)); have n8_ := Aside0.mk ((by rw [hg]; exact Nat.ne_of_lt (blk_lt (g := gb325) (o := .cells #[.slice A0_0 l0_0.length c0_0] 24 (0, 0)) (by (with_reducible repeat (first | refine blk_drewN ?_ _ | refine blk_drew ?_ | refine blk_alloc ?_ _)); exact BK325.out)) : gb325 ≠ gb341)); have n9_ := Aside0.mk ((by rw [hg]; exact Nat.ne_of_gt (blk_lt (g := gb325) (o := .cells #[.slice A0_0 l0_0.length c0_0] 24 (0, 0)) (by (with_reducible repeat (first | refine blk_drewN ?_ _ | refine blk_drew ?_ | refine blk_alloc ?_ _)); exact BK325.out)) : gb341 ≠ gb325)); have n10_ := Aside0.mk ((by rw [hg]; exact Nat.ne_of_lt (blk_lt (g := gb326) (o := .cells #[.int .i64 a1_0, .int .i64 a1_1, .int .i64 a1_2] 26 (0, 0)) (by (with_reducible repeat (first | refine blk_drewN ?_ _ | refine blk_drew ?_ | refine blk_alloc ?_ _)); exact BK326.out)) : gb326 ≠ gb341)); have n11_ := Aside0.mk ((by rw [hg]; exact Nat.ne_of_gt (blk_lt (g := gb326) (o := .cells #[.int .i64 a1_0, .int .i64 a1_1, .int .i64 a1_2] 26 (0, 0)) (by (with_reducible repeat (first | refine blk_drewN ?_ _ | refine blk_drew ?_ | refine blk_alloc ?_ _)); exact BK326.out)) : gb341 ≠ gb326)); clear HO_326000; clear HO338; clear BK325; clear BK326; clear HB; have HO_326000 := n0_; have HO338 := n1_; have BK325 := n2_; have BK326 := n3_; have HB := n4_; have BK341 := n5_; have GW341 := n6_; have GE341 := n7_; have NB325_341 := n8_; have NB341_325 := n9_; have NB326_341 := n10_; have NB341_326 := n11_; clear n0_ n1_ n2_ n3_ n4_ n5_ n6_ n7_ n8_ n9_ n10_ n11_; clear hb hbox hg; obtain ⟨Ao77, co77, eo77⟩ := Kd.R_slice HO338.out; subst eo77; have hnb78 := NB341_325.out; have hnc78 := NB325_341.out; have hnb79 := NB341_326.out; have hnc79 := NB326_341.out; have hcz80_0 : w76.cell? ⟨gb341, 0, none⟩ = some (.slice none 0 0) := (blk_cell BK341.out 0).trans rfl; have hfz80_0 := blk_frozen BK341.out 0; have hcz81_0 : w76.cell? ⟨gb325, 0, none⟩ = some (.slice A0_0 l0_0.length c0_0) := (blk_cell BK325.out 0).trans rfl; have hfz81_0 := blk_frozen BK325.out 0; have hcz82_0 : w76.cell? ⟨gb326, 0, none⟩ = some (.int .i64 a1_0) := (blk_cell BK326.out 0).trans rfl; have hcz82_1 : w76.cell? ⟨gb326, 1, none⟩ = some (.int .i64 a1_1) := (blk_cell BK326.out 1).trans rfl; have hcz82_2 : w76.cell? ⟨gb326, 2, none⟩ = some (.int .i64 a1_2) := (blk_cell BK326.out 2).trans rfl; have hfz82_0 := blk_frozen BK326.out 0; have hfz82_1 := blk_frozen BK326.out 1; have hfz82_2 := blk_frozen BK326.out 2) | ((with_reducible refine gate_callee (f := 22) rfl ?_); refine goesL_ (some 33) rfl rfl Tryd.func22 (by kernel_rfl) rfl #[.agg #[.slice A0_0 l0_0.length c0_0], .agg #[.int .i64 a1_0, .int .i64 a1_1, .int .i64 a1_2]] rfl (by (try simp only [List.map_toArray, List.map_cons, List.map_nil]); first | done | rfl | (simp only [List.length_drop, List.length_take]; rfl)) ?_; (with_reducible refine (snowlineref02_Apply.calls kj4 _ _ l0_0 a1_0 a1_1 a1_2 t342 t345 t346 _ ?side1 ?side2 A28.out).mono ?_); (case side1 => refine (Kd.V_reads' (e := 48) (base := w.heap.size) (ok := fun k_ => ((((P0_0_ k_ ∨ w.heap.size ≤ k_) ∧ (k_ ≠ gb325 ∧ k_ ≠ gb326)) ∧ some k_ ≠ (.slice Ao77 t336.length co77 : Value).ownBlock) ∧ k_ ≠ gb341)) (n := l0_0.length) (c := c0_0) ?_).2.2; exact (by (with_reducible repeat (first | apply Kd.V_alloc | apply Kd.V_drewN | apply Kd.V_drew)); exact (Kd.V_mono (Kd.V_far (p := ⟨gb341, 0, none⟩) (Kd.V_mono HO_326000.out (fun k_ hk => (⟨hk, hk.2⟩ : _ ∧ k_ ≠ gb341))) (fun _ hk => hk.2) (.slice Ao77 t336.length co77)) (fun _ h_ => h_.1)))); (case side2 => exact (Kd.V_reads' HO_326000.out).2.1); rintro e w83 ⟨v343, rfl, ho0, hb⟩; refine ⟨_, rfl, ?_⟩; have n0_ := Aside0.mk (Kd.V_elder' (by (with_reducible repeat (first | apply Kd.V_alloc | apply Kd.V_drewN | apply Kd.V_drew)); exact (Kd.V_mono (Kd.V_far (p := ⟨gb341, 0, none⟩) (Kd.V_mono HO_326000.out (fun k_ hk => (⟨hk, hk.2⟩ : _ ∧ k_ ≠ gb341))) (fun _ hk => hk.2) (.slice Ao77 t336.length co77)) (fun _ h_ => h_.1))) (Kd.R_base ho0) hb); have n1_ := Aside0.mk (Kd.R_elder' (by (with_reducible repeat (first | apply Kd.R_alloc | apply Kd.R_drewN | apply Kd.R_drew)); exact (Kd.R_mono (Kd.R_far (p := ⟨gb341, 0, none⟩) (Kd.R_types HO338.out BK341.out (by decide)) (fun _ hk => hk.2) (.slice Ao77 t336.length co77)) (fun _ h_ => h_.1))) (Kd.R_base ho0) hb); have n2_ := Aside0.mk (Kd.R_lower (Kd.R_new' (Kd.R_newM (M := fun k_ => (w.heap.size ≤ k_)) ho0 (below_size (by repeat (first | (with_reducible first | exact HB.out | apply below_alloc | apply pw_below_drewN | apply below_drew1 | refine below_set ?_ GE325.out | refine below_set ?_ GE326.out | refine below_set ?_ GE341.out) | exact HB.out))) (fun k_ h_ => h_)) (Kd.R_lt (by (with_reducible repeat (first | apply Kd.R_alloc | apply Kd.R_drewN | apply Kd.R_drew)); exact (Kd.R_mono (Kd.R_far (p := ⟨gb341, 0, none⟩) (Kd.R_types HO338.out BK341.out (by decide)) (fun _ hk => hk.2) (.slice Ao77 t336.length co77)) (fun _ h_ => h_.1))))) (below_size (by repeat (first | (with_reducible first | exact HB.out | apply below_alloc | apply pw_below_drewN | apply below_drew1 | refine below_set ?_ GE325.out | refine below_set ?_ GE326.out | refine below_set ?_ GE341.out) | exact HB.out)))); have n3_ := Aside0.mk (blk_below (g := gb325) (o := .cells #[.slice A0_0 l0_0.length c0_0] 24 (0, 0)) (by (with_reducible repeat (first | refine blk_drewN ?_ _ | refine blk_drew ?_ | refine blk_alloc ?_ _)); refine blk_far ?_ NB325_341.out _; (with_reducible repeat (first | refine blk_drewN ?_ _ | refine blk_drew ?_ | refine blk_alloc ?_ _)); exact BK325.out) hb); have n4_ := Aside0.mk (blk_below (g := gb326) (o := .cells #[.int .i64 a1_0, .int .i64 a1_1, .int .i64 a1_2] 26 (0, 0)) (by (with_reducible repeat (first | refine blk_drewN ?_ _ | refine blk_drew ?_ | refine blk_alloc ?_ _)); refine blk_far ?_ NB326_341.out _; (with_reducible repeat (first | refine blk_drewN ?_ _ | refine blk_drew ?_ | refine blk_alloc ?_ _)); exact BK326.out) hb); have n5_ := Aside0.mk (blk_below (g := gb341) (o := .cells #[.slice Ao77 t336.length co77] 24 (0, 0)) (by (with_reducible repeat (first | refine blk_drewN ?_ _ | refine blk_drew ?_ | refine blk_alloc ?_ _)); refine blk_put (cs := #[.slice none 0 0]) ?_ 0 _ rfl; (with_reducible repeat (first | refine blk_drewN ?_ _ | refine blk_drew ?_ | refine blk_alloc ?_ _)); exact BK341.out) hb); have n6_ := Aside0.mk (below_step (by repeat (first | (with_reducible first | exact HB.out | apply below_alloc | apply pw_below_drewN | apply below_drew1 | refine below_set ?_ GE325.out | refine below_set ?_ GE326.out | refine below_set ?_ GE341.out) | exact HB.out)) hb); clear HO_326000; clear HO338; clear BK325; clear BK326; clear BK341; clear HB; have HO_326000 := n0_; have HO338 := n1_; have HO344 := n2_; have BK325 := n3_; have BK326 := n4_; have BK341 := n5_; have HB := n6_; clear n0_ n1_ n2_ n3_ n4_ n5_ n6_; (try clear hb); (try clear hb2); (try clear hk); (try clear hi); (try clear ho0)) | ((with_reducible refine gate_dst (N := 8) rfl ?_); (try (refine gate_guard (by rfl) ?_; dsimp only)); refine box_event ?hg (N := 8) ?hd (cs := #[.slice none 0 0]) (t := 24) ?hr ?_; (case hd => rfl); (case hg => rfl); (case hr => first | (go_simp; done) | (go_simp; rfl)); intro gb347 hg w84 hbox hb; have n0_ := Aside0.mk (Kd.V_below (Kd.V_elderB (by (with_reducible repeat (first | apply Kd.V_alloc | apply Kd.V_drewN | apply Kd.V_drew)); exact HO_326000.out) gb347 (Nat.le_of_eq hg.symm)) hb); have n1_ := Aside0.mk (Kd.R_below (by (with_reducible repeat (first | apply Kd.R_alloc | apply Kd.R_drewN | apply Kd.R_drew)); exact HO338.out) hb); have n2_ := Aside0.mk (Kd.R_below (by (with_reducible repeat (first | apply Kd.R_alloc | apply Kd.R_drewN | apply Kd.R_drew)); exact HO344.out) hb); have n3_ := Aside0.mk (blk_below (g := gb325) (o := .cells #[.slice A0_0 l0_0.length c0_0] 24 (0, 0)) (by (with_reducible repeat (first | refine blk_drewN ?_ _ | refine blk_drew ?_ | refine blk_alloc ?_ _)); exact BK325.out) hb); have n4_ := Aside0.mk (blk_below (g := gb326) (o := .cells #[.int .i64 a1_0, .int .i64 a1_1, .int .i64 a1_2] 26 (0, 0)) (by (with_reducible repeat (first | refine blk_drewN ?_ _ | refine blk_drew ?_ | refine blk_alloc ?_ _)); exact BK326.out) hb); have n5_ := Aside0.mk (blk_below (g := gb341) (o := .cells #[.slice Ao77 t336.length co77] 24 (0, 0)) (by (with_reducible repeat (first | refine blk_drewN ?_ _ | refine blk_drew ?_ | refine blk_alloc ?_ _)); exact BK341.out) hb); have n6_ := Aside0.mk (below_step (by repeat (first | (with_reducible first | exact HB.out | apply below_alloc | apply pw_below_drewN | apply below_drew1 | refine below_set ?_ GE325.out | refine below_set ?_ GE326.out | refine below_set ?_ GE341.out) | exact HB.out)) hb); have n7_ := Aside0.mk (hbox); have n8_ := Aside0.mk ((by rw [hg]; exact (below_size (by repeat (first | (with_reducible first | exact HB.out | apply below_alloc | apply pw_below_drewN | apply below_drew1 | refine below_set ?_ GE325.out | refine below_set ?_ GE326.out | refine below_set ?_ GE341.out) | exact HB.out))) : w.heap.size ≤ gb347)); have n9_ := Aside0.mk ((by rw [hg]; exact (below_size (by repeat (first | (with_reducible first | exact HB.out | apply below_alloc | apply pw_below_drewN | apply below_drew1 | refine below_set ?_ GE325.out | refine below_set ?_ GE326.out | refine below_set ?_ GE341.out) | exact HB.out))) : w.heap.size ≤ gb347)); have n10_ := Aside0.mk ((by rw [hg]; exact Nat.ne_of_lt (blk_lt (g := gb325) (o := .cells #[.slice A0_0 l0_0.length c0_0] 24 (0, 0)) (by (with_reducible repeat (first | refine blk_drewN ?_ _ | refine blk_drew ?_ | refine blk_alloc ?_ _)); exact BK325.out)) : gb325 ≠ gb347)); have n11_ := Aside0.mk ((by rw [hg]; exact Nat.ne_of_gt (blk_lt (g := gb325) (o := .cells #[.slice A0_0 l0_0.length c0_0] 24 (0, 0)) (by (with_reducible repeat (first | refine blk_drewN ?_ _ | refine blk_drew ?_ | refine blk_alloc ?_ _)); exact BK325.out)) : gb347 ≠ gb325)); have n12_ := Aside0.mk ((by rw [hg]; exact Nat.ne_of_lt (blk_lt (g := gb326) (o := .cells #[.int .i64 a1_0, .int .i64 a1_1, .int .i64 a1_2] 26 (0, 0)) (by (with_reducible repeat (first | refine blk_drewN ?_ _ | refine blk_drew ?_ | refine blk_alloc ?_ _)); exact BK326.out)) : gb326 ≠ gb347)); have n13_ := Aside0.mk ((by rw [hg]; exact Nat.ne_of_gt (blk_lt (g := gb326) (o := .cells #[.int .i64 a1_0, .int .i64 a1_1, .int .i64 a1_2] 26 (0, 0)) (by (with_reducible repeat (first | refine blk_drewN ?_ _ | refine blk_drew ?_ | refine blk_alloc ?_ _)); exact BK326.out)) : gb347 ≠ gb326)); have n14_ := Aside0.mk ((by rw [hg]; exact Nat.ne_of_lt (blk_lt (g := gb341) (o := .cells #[.slice Ao77 t336.length co77] 24 (0, 0)) (by (with_reducible repeat (first | refine blk_drewN ?_ _ | refine blk_drew ?_ | refine blk_alloc ?_ _)); exact BK341.out)) : gb341 ≠ gb347)); have n15_ := Aside0.mk ((by rw [hg]; exact Nat.ne_of_gt (blk_lt (g := gb341) (o := .cells #[.slice Ao77 t336.length co77] 24 (0, 0)) (by (with_reducible repeat (first | refine blk_drewN ?_ _ | refine blk_drew ?_ | refine blk_alloc ?_ _)); exact BK341.out)) : gb347 ≠ gb341)); clear HO_326000; clear HO338; clear HO344; clear BK325; clear BK326; clear BK341; clear HB; have HO_326000 := n0_; have HO338 := n1_; have HO344 := n2_; have BK325 := n3_; have BK326 := n4_; have BK341 := n5_; have HB := n6_; have BK347 := n7_; have GW347 := n8_; have GE347 := n9_; have NB325_347 := n10_; have NB347_325 := n11_; have NB326_347 := n12_; have NB347_326 := n13_; have NB341_347 := n14_; have NB347_341 := n15_; clear n0_ n1_ n2_ n3_ n4_ n5_ n6_ n7_ n8_ n9_ n10_ n11_ n12_ n13_ n14_ n15_; clear hb hbox hg; obtain ⟨Ao85, co85, eo85⟩ := Kd.R_slice HO344.out; subst eo85; have hnb86 := NB347_325.out; have hnc86 := NB325_347.out; have hnb87 := NB347_326.out; have hnc87 := NB326_347.out; have hnb88 := NB347_341.out; have hnc88 := NB341_347.out; have hcz89_0 : w84.cell? ⟨gb347, 0, none⟩ = some (.slice none 0 0) := (blk_cell BK347.out 0).trans rfl; have hfz89_0 := blk_frozen BK347.out 0; have hcz90_0 : w84.cell? ⟨gb341, 0, none⟩ = some (.slice Ao77 t336.length co77) := (blk_cell BK341.out 0).trans rfl; have hfz90_0 := blk_frozen BK341.out 0) | ((with_reducible refine gate_callee (f := 23) rfl ?_); refine goesL_ (some 39) rfl rfl Tryd.func23 (by kernel_rfl) rfl #[.agg #[.slice Ao77 t336.length co77], .agg #[.slice Ao85 t342.length co85]] rfl (by (try simp only [List.map_toArray, List.map_cons, List.map_nil]); first | done | rfl | (simp only [List.length_drop, List.length_take]; rfl)) ?_; (with_reducible refine (snowlineref02_Same.calls kj4 _ _ t336 _ _ t342 false _ ?side1 ?side2 ?side3 ?side4 A29.out).mono ?_); (case side1 => refine (Kd.R_reads' (e := 48) (base := w.heap.size) (ok := fun k_ => (((w.heap.size ≤ k_) ∧ True) ∧ some k_ ≠ (.slice Ao85 t342.length co85 : Value).ownBlock)) (n := t336.length) (c := co77) ?_).2.2; exact (by (with_reducible repeat (first | apply Kd.R_alloc | apply Kd.R_drewN | apply Kd.R_drew)); exact (Kd.R_mono (Kd.R_far (p := ⟨gb347, 0, none⟩) (Kd.R_types HO338.out BK347.out (by decide)) (fun _ hk => hk.2) (.slice Ao85 t342.length co85)) (fun _ h_ => h_.1)))); (case side2 => exact (Kd.R_reads' HO338.out).2.1); (case side3 => refine (Kd.R_reads' (e := 48) (base := w.heap.size) (ok := fun k_ => (((w.heap.size ≤ k_) ∧ True) ∧ some k_ ≠ (.slice Ao77 t336.length co77 : Value).ownBlock)) (n := t342.length) (c := co85) ?_).2.2; exact (by (with_reducible repeat (first | apply Kd.R_alloc | apply Kd.R_drewN | apply Kd.R_drew)); exact (Kd.R_mono (Kd.R_far (p := ⟨gb347, 0, none⟩) (Kd.R_types HO344.out BK347.out (by decide)) (fun _ hk => hk.2) (.slice Ao85 t342.length co85)) (fun _ h_ => h_.1)))); (case side4 => exact (Kd.R_reads' HO344.out).2.1); rintro e w91 ⟨rfl, hb⟩; refine ⟨_, rfl, ?_⟩; have n0_ := Aside0.mk (Kd.V_below (by (with_reducible repeat (first | apply Kd.V_alloc | apply Kd.V_drewN | apply Kd.V_drew)); exact (Kd.V_mono (Kd.V_far (p := ⟨gb347, 0, none⟩) (Kd.V_mono HO_326000.out (fun k_ hk => (⟨hk, hk.2⟩ : _ ∧ k_ ≠ gb347))) (fun _ hk => hk.2) (.slice Ao85 t342.length co85)) (fun _ h_ => h_.1))) hb); have n1_ := Aside0.mk (Kd.R_below (by (with_reducible repeat (first | apply Kd.R_alloc | apply Kd.R_drewN | apply Kd.R_drew)); exact (Kd.R_mono (Kd.R_far (p := ⟨gb347, 0, none⟩) (Kd.R_types HO338.out BK347.out (by decide)) (fun _ hk => hk.2) (.slice Ao85 t342.length co85)) (fun _ h_ => h_.1))) hb); have n2_ := Aside0.mk (Kd.R_below (by (with_reducible repeat (first | apply Kd.R_alloc | apply Kd.R_drewN | apply Kd.R_drew)); exact (Kd.R_mono (Kd.R_far (p := ⟨gb347, 0, none⟩) (Kd.R_types HO344.out BK347.out (by decide)) (fun _ hk => hk.2) (.slice Ao85 t342.length co85)) (fun _ h_ => h_.1))) hb); have n3_ := Aside0.mk (blk_below (g := gb325) (o := .cells #[.slice A0_0 l0_0.length c0_0] 24 (0, 0)) (by (with_reducible repeat (first | refine blk_drewN ?_ _ | refine blk_drew ?_ | refine blk_alloc ?_ _)); refine blk_far ?_ NB325_347.out _; (with_reducible repeat (first | refine blk_drewN ?_ _ | refine blk_drew ?_ | refine blk_alloc ?_ _)); exact BK325.out) hb); have n4_ := Aside0.mk (blk_below (g := gb326) (o := .cells #[.int .i64 a1_0, .int .i64 a1_1, .int .i64 a1_2] 26 (0, 0)) (by (with_reducible repeat (first | refine blk_drewN ?_ _ | refine blk_drew ?_ | refine blk_alloc ?_ _)); refine blk_far ?_ NB326_347.out _; (with_reducible repeat (first | refine blk_drewN ?_ _ | refine blk_drew ?_ | refine blk_alloc ?_ _)); exact BK326.out) hb); have n5_ := Aside0.mk (blk_below (g := gb341) (o := .cells #[.slice Ao77 t336.length co77] 24 (0, 0)) (by (with_reducible repeat (first | refine blk_drewN ?_ _ | refine blk_drew ?_ | refine blk_alloc ?_ _)); refine blk_far ?_ NB341_347.out _; (with_reducible repeat (first | refine blk_drewN ?_ _ | refine blk_drew ?_ | refine blk_alloc ?_ _)); exact BK341.out) hb); have n6_ := Aside0.mk (blk_below (g := gb347) (o := .cells #[.slice Ao85 t342.length co85] 24 (0, 0)) (by (with_reducible repeat (first | refine blk_drewN ?_ _ | refine blk_drew ?_ | refine blk_alloc ?_ _)); refine blk_put (cs := #[.slice none 0 0]) ?_ 0 _ rfl; (with_reducible repeat (first | refine blk_drewN ?_ _ | refine blk_drew ?_ | refine blk_alloc ?_ _)); exact BK347.out) hb); have n7_ := Aside0.mk (below_step (by repeat (first | (with_reducible first | exact HB.out | apply below_alloc | apply pw_below_drewN | apply below_drew1 | refine below_set ?_ GE325.out | refine below_set ?_ GE326.out | refine below_set ?_ GE341.out | refine below_set ?_ GE347.out) | exact HB.out)) hb); clear HO_326000; clear HO338; clear HO344; clear BK325; clear BK326; clear BK341; clear BK347; clear HB; have HO_326000 := n0_; have HO338 := n1_; have HO344 := n2_; have BK325 := n3_; have BK326 := n4_; have BK341 := n5_; have BK347 := n6_; have HB := n7_; clear n0_ n1_ n2_ n3_ n4_ n5_ n6_ n7_; (try clear hb); (try clear hb2); (try clear hk); (try clear hi)))
            go_ret
            exact ⟨by first | rfl | (simp [errW_none, errW_some] <;> rfl) | (simp [*, errW_none, errW_some] <;> rfl), by repeat (first | (with_reducible first | exact HB.out | apply below_alloc | apply pw_below_drewN | apply below_drew1 | refine below_set ?_ GE325.out | refine below_set ?_ GE326.out | refine below_set ?_ GE341.out | refine below_set ?_ GE347.out) | exact HB.out)⟩
  · replace c4 := Bool.eq_false_iff.mpr c4
    subst c4
    have H1 : (some false) = some r := by rw [if_neg (show ¬ (false = true) by decide)] at H; exact H
    clear H
    have H := H1
    clear H1
    obtain rfl := Option.some.inj H
    go_enter Tryd.func3, Tryd.ntmps3
    go_wp2_with (first | ((with_reducible refine gate_dst (N := 2) rfl ?_); (try (refine gate_guard (by rfl) ?_; dsimp only)); refine box_event ?hg (N := 2) ?hd (cs := #[.slice A0_0 l0_0.length c0_0]) (t := 24) ?hr ?_; (case hd => rfl); (case hg => rfl); (case hr => first | (go_simp; done) | (go_simp; rfl)); intro gb325 hg w92 hbox hb; have n0_ := Aside0.mk (Kd.V_below (Kd.V_elderB (by (with_reducible repeat (first | apply Kd.V_alloc | apply Kd.V_drewN | apply Kd.V_drew)); exact HO0_0.out) gb325 (Nat.le_of_eq hg.symm)) hb); have n1_ := Aside0.mk (below_step (by repeat (first | (with_reducible first | exact HB.out | apply below_alloc | apply pw_below_drewN | apply below_drew1) | exact HB.out)) hb); have n2_ := Aside0.mk (hbox); have n3_ := Aside0.mk ((by rw [hg]; exact (below_size (by repeat (first | (with_reducible first | exact HB.out | apply below_alloc | apply pw_below_drewN | apply below_drew1) | exact HB.out))) : w.heap.size ≤ gb325)); have n4_ := Aside0.mk ((by rw [hg]; exact (below_size (by repeat (first | (with_reducible first | exact HB.out | apply below_alloc | apply pw_below_drewN | apply below_drew1) | exact HB.out))) : w.heap.size ≤ gb325)); clear HO0_0; clear HB; have HO0_0 := n0_; have HB := n1_; have BK325 := n2_; have GW325 := n3_; have GE325 := n4_; clear n0_ n1_ n2_ n3_ n4_; clear hb hbox hg) | ((with_reducible refine gate_dst (N := 3) rfl ?_); (try (refine gate_guard (by rfl) ?_; dsimp only)); refine box_event ?hg (N := 3) ?hd (cs := #[.int .i64 a1_0, .int .i64 a1_1, .int .i64 a1_2]) (t := 26) ?hr ?_; (case hd => rfl); (case hg => rfl); (case hr => first | (go_simp; done) | (go_simp; rfl)); intro gb326 hg w93 hbox hb; have n0_ := Aside0.mk (Kd.V_below (Kd.V_elderB (by (with_reducible repeat (first | apply Kd.V_alloc | apply Kd.V_drewN | apply Kd.V_drew)); exact HO0_0.out) gb326 (Nat.le_of_eq hg.symm)) hb); have n1_ := Aside0.mk (blk_below (g := gb325) (o := .cells #[.slice A0_0 l0_0.length c0_0] 24 (0, 0)) (by (with_reducible repeat (first | refine blk_drewN ?_ _ | refine blk_drew ?_ | refine blk_alloc ?_ _)); exact BK325.out) hb); have n2_ := Aside0.mk (below_step (by repeat (first | (with_reducible first | exact HB.out | apply below_alloc | apply pw_below_drewN | apply below_drew1 | refine below_set ?_ GE325.out) | exact HB.out)) hb); have n3_ := Aside0.mk (hbox); have n4_ := Aside0.mk ((by rw [hg]; exact (below_size (by repeat (first | (with_reducible first | exact HB.out | apply below_alloc | apply pw_below_drewN | apply below_drew1 | refine below_set ?_ GE325.out) | exact HB.out))) : w.heap.size ≤ gb326)); have n5_ := Aside0.mk ((by rw [hg]; exact (below_size (by repeat (first | (with_reducible first | exact HB.out | apply below_alloc | apply pw_below_drewN | apply below_drew1 | refine below_set ?_ GE325.out) | exact HB.out))) : w.heap.size ≤ gb326)); have n6_ := Aside0.mk ((by rw [hg]; exact Nat.ne_of_lt (blk_lt (g := gb325) (o := .cells #[.slice A0_0 l0_0.length c0_0] 24 (0, 0)) (by (with_reducible repeat (first | refine blk_drewN ?_ _ | refine blk_drew ?_ | refine blk_alloc ?_ _)); exact BK325.out)) : gb325 ≠ gb326)); have n7_ := Aside0.mk ((by rw [hg]; exact Nat.ne_of_gt (blk_lt (g := gb325) (o := .cells #[.slice A0_0 l0_0.length c0_0] 24 (0, 0)) (by (with_reducible repeat (first | refine blk_drewN ?_ _ | refine blk_drew ?_ | refine blk_alloc ?_ _)); exact BK325.out)) : gb326 ≠ gb325)); clear HO0_0; clear BK325; clear HB; have HO0_0 := n0_; have BK325 := n1_; have HB := n2_; have BK326 := n3_; have GW326 := n4_; have GE326 := n5_; have NB325_326 := n6_; have NB326_325 := n7_; clear n0_ n1_ n2_ n3_ n4_ n5_ n6_ n7_; clear hb hbox hg) | ((with_reducible refine gate_callee (f := 18) rfl ?_); refine goesL_ (some 11) rfl rfl Tryd.func18 (by kernel_rfl) rfl #[] rfl (by (try simp only [List.map_toArray, List.map_cons, List.map_nil]); first | done | rfl | (simp only [List.length_drop, List.length_take]; rfl)) ?_; (with_reducible refine (snowlinelaw02_sane.calls k  false _ ?hgl_ A3.out).mono ?_); (case hgl_ => exact HGl.out.below (by repeat (first | (with_reducible first | exact HB.out | apply below_alloc | apply pw_below_drewN | apply below_drew1 | refine below_set ?_ GE325.out | refine below_set ?_ GE326.out) | exact HB.out)) (Nat.le_refl _)); rintro e w94 ⟨rfl, hb⟩; refine ⟨_, rfl, ?_⟩; have n0_ := Aside0.mk (Kd.V_below (by (with_reducible repeat (first | apply Kd.V_alloc | apply Kd.V_drewN | apply Kd.V_drew)); exact HO0_0.out) hb); have n1_ := Aside0.mk (blk_below (g := gb325) (o := .cells #[.slice A0_0 l0_0.length c0_0] 24 (0, 0)) (by (with_reducible repeat (first | refine blk_drewN ?_ _ | refine blk_drew ?_ | refine blk_alloc ?_ _)); exact BK325.out) hb); have n2_ := Aside0.mk (blk_below (g := gb326) (o := .cells #[.int .i64 a1_0, .int .i64 a1_1, .int .i64 a1_2] 26 (0, 0)) (by (with_reducible repeat (first | refine blk_drewN ?_ _ | refine blk_drew ?_ | refine blk_alloc ?_ _)); exact BK326.out) hb); have n3_ := Aside0.mk (below_step (by repeat (first | (with_reducible first | exact HB.out | apply below_alloc | apply pw_below_drewN | apply below_drew1 | refine below_set ?_ GE325.out | refine below_set ?_ GE326.out) | exact HB.out)) hb); clear HO0_0; clear BK325; clear BK326; clear HB; have HO0_0 := n0_; have BK325 := n1_; have BK326 := n2_; have HB := n3_; clear n0_ n1_ n2_ n3_; (try clear hb); (try clear hb2); (try clear hk); (try clear hi)))
    go_ret
    exact ⟨by first | rfl | (simp [errW_none, errW_some] <;> rfl) | (simp [*, errW_none, errW_some] <;> rfl), by repeat (first | (with_reducible first | exact HB.out | apply below_alloc | apply pw_below_drewN | apply below_drew1 | refine below_set ?_ GE325.out | refine below_set ?_ GE326.out) | exact HB.out)⟩
end Go.Proofs.YtpldcikmlpegpaaDoor.PB
end
section
namespace Go.Proofs.YtpldcikmlpegpaaDoor.Plain
open Go.RowKit Go.Proofs.YtpldcikmlpegpaaDoor.PB
abbrev Ly := S48
@[ext] theorem Ly.ext' {a b : Ly} (h0 : a.f0 = b.f0) (h1 : a.f1 = b.f1) (h2 : a.f2 = b.f2) : a = b := by
  cases a; cases b; simp_all
def Fit (l : Ly) : Prop := 0 ≤ l.f0 ∧ 0 ≤ l.f1 ∧ l.f1 ≤ l.f0 / 20 ∧ 0 ≤ l.f2
def Fits (ls : List Ly) : Prop := ∀ l ∈ ls, Fit l
theorem Fits.nil : Fits [] := by intro l h; cases h
theorem Fits.cons {l : Ly} {ls : List Ly} (h : Fit l) (hs : Fits ls) : Fits (l :: ls) := by
  intro x hx
  rcases List.mem_cons.mp hx with rfl | hx
  · exact h
  · exact hs x hx
theorem Fits.head {l : Ly} {ls : List Ly} (h : Fits (l :: ls)) : Fit l := h l List.mem_cons_self
theorem Fits.tail {l : Ly} {ls : List Ly} (h : Fits (l :: ls)) : Fits ls := fun x hx => h x (List.mem_cons_of_mem _ hx)
def water : List Ly → Int
  | [] => 0
  | l :: ls => l.f0 + l.f1 + water ls
def cold : List Ly → Int
  | [] => 0
  | l :: ls => l.f2 + cold ls
theorem water_nonneg {ls : List Ly} (h : Fits ls) : 0 ≤ water ls := by
  induction ls with
  | nil => exact Int.le_refl _
  | cons l ls ih =>
    have := ih h.tail
    obtain ⟨a, b, c, d⟩ := h.head
    simp only [water]
    omega
theorem cold_nonneg {ls : List Ly} (h : Fits ls) : 0 ≤ cold ls := by
  induction ls with
  | nil => exact Int.le_refl _
  | cons l ls ih =>
    have := ih h.tail
    obtain ⟨a, b, c, d⟩ := h.head
    simp only [cold]
    omega
def into (l : Ly) (m : Int) : Ly × Int :=
  let fr := min m l.f2
  let kept := min (m - fr) ((l.f0 + fr) / 20 - l.f1)
  (⟨l.f0 + fr, l.f1 + kept, l.f2 - fr⟩, m - fr - kept)
def flow : List Ly → Int → List Ly × Int
  | [], m => ([], m)
  | l :: ls, m => if 0 < m then ((into l m).1 :: (flow ls (into l m).2).1, (flow ls (into l m).2).2) else (l :: ls, m)
def flow1 : List Ly → List Ly × Int
  | [] => ([], 1)
  | l :: ls => if l.f2 = 0 ∧ l.f0 / 20 ≤ l.f1 then (l :: (flow1 ls).1, (flow1 ls).2)
      else if 0 < l.f2 then (⟨l.f0 + 1, l.f1, l.f2 - 1⟩ :: ls, 0) else (⟨l.f0, l.f1 + 1, l.f2⟩ :: ls, 0)
theorem flow_zero (ls : List Ly) : flow ls 0 = (ls, 0) := by
  cases ls <;> simp [flow]
theorem into_fit {l : Ly} {m : Int} (h : Fit l) (hm : 0 ≤ m) : Fit (into l m).1 ∧ 0 ≤ (into l m).2 := by
  obtain ⟨a, b, c, d⟩ := h
  simp only [into, Fit]
  omega
theorem into_water (l : Ly) (m : Int) : (into l m).1.f0 + (into l m).1.f1 + (into l m).2 = l.f0 + l.f1 + m := by
  simp only [into]; omega
theorem into_cold {l : Ly} {m : Int} (h : Fit l) (hm : 0 ≤ m) : (into l m).1.f2 ≤ l.f2 ∧ l.f0 ≤ (into l m).1.f0 := by
  obtain ⟨a, b, c, d⟩ := h
  simp only [into]
  omega
theorem flow_fit {ls : List Ly} : ∀ {m : Int}, Fits ls → 0 ≤ m → Fits (flow ls m).1 ∧ 0 ≤ (flow ls m).2 := by
  induction ls with
  | nil => intro m h hm; exact ⟨Fits.nil, hm⟩
  | cons l ls ih =>
    intro m h hm
    simp only [flow]
    split
    · obtain ⟨f, r⟩ := into_fit h.head hm
      obtain ⟨g, s⟩ := ih h.tail r
      exact ⟨Fits.cons f g, s⟩
    · exact ⟨h, hm⟩
theorem flow_water (ls : List Ly) : ∀ (m : Int), water (flow ls m).1 + (flow ls m).2 = water ls + m := by
  induction ls with
  | nil => intro m; simp [flow, water]
  | cons l ls ih =>
    intro m
    simp only [flow]
    split
    · have := ih (into l m).2
      have := into_water l m
      simp only [water]
      omega
    · simp only [water]
theorem flow_cold {ls : List Ly} : ∀ {m : Int}, Fits ls → 0 ≤ m → cold (flow ls m).1 ≤ cold ls := by
  induction ls with
  | nil => intro m h hm; exact Int.le_refl _
  | cons l ls ih =>
    intro m h hm
    simp only [flow]
    split
    · have := ih h.tail (into_fit h.head hm).2
      have := (into_cold h.head hm).1
      simp only [cold]
      omega
    · exact Int.le_refl _
theorem flow_length (ls : List Ly) : ∀ (m : Int), (flow ls m).1.length = ls.length := by
  induction ls with
  | nil => intro m; rfl
  | cons l ls ih =>
    intro m
    simp only [flow]
    split
    · simp [ih]
    · rfl
theorem flow_succ {ls : List Ly} : ∀ {m : Int}, Fits ls → 0 ≤ m → flow ls (m + 1) = ((flow (flow1 ls).1 m).1, (flow1 ls).2 + (flow (flow1 ls).1 m).2) := by
  induction ls with
  | nil => intro m _ _; simp [flow, flow1]; omega
  | cons l ls ih =>
    intro m h hm
    obtain ⟨a, b, c, d⟩ := h.head
    have hlt : 0 < m + 1 := by omega
    simp only [flow1]
    split
    · rename_i hf
      obtain ⟨f2, f1⟩ := hf
      have e : into l (m + 1) = (l, m + 1) := by
        simp only [into]
        refine Prod.ext ?_ ?_
        · apply Ly.ext' <;> dsimp only <;> omega
        · dsimp only; omega
      have e' : into l m = (l, m) := by
        simp only [into]
        refine Prod.ext ?_ ?_
        · apply Ly.ext' <;> dsimp only <;> omega
        · dsimp only; omega
      simp only [flow, if_pos hlt, e]
      rw [ih h.tail hm]
      by_cases h0 : 0 < m
      · rw [if_pos h0, e']
      · have : m = 0 := by omega
        subst this
        simp [flow_zero]
    · rename_i hf
      split
      · rename_i h2
        simp only [flow, if_pos hlt]
        by_cases h0 : 0 < m
        · have e : into l (m + 1) = into ⟨l.f0 + 1, l.f1, l.f2 - 1⟩ m := by
            simp only [into]
            refine Prod.ext ?_ ?_
            · apply Ly.ext' <;> dsimp only <;> omega
            · dsimp only; omega
          rw [if_pos h0, e]
          simp
        · have : m = 0 := by omega
          subst this
          have e : into l (0 + 1) = (⟨l.f0 + 1, l.f1, l.f2 - 1⟩, 0) := by
            simp only [into]
            refine Prod.ext ?_ ?_
            · apply Ly.ext' <;> dsimp only <;> omega
            · dsimp only; omega
          rw [e]
          simp [flow_zero]
      · rename_i h2
        simp only [flow, if_pos hlt]
        by_cases h0 : 0 < m
        · have e : into l (m + 1) = into ⟨l.f0, l.f1 + 1, l.f2⟩ m := by
            simp only [into]
            refine Prod.ext ?_ ?_
            · apply Ly.ext' <;> dsimp only <;> omega
            · dsimp only; omega
          rw [if_pos h0, e]
          simp
        · have : m = 0 := by omega
          subst this
          have e : into l (0 + 1) = (⟨l.f0, l.f1 + 1, l.f2⟩, 0) := by
            simp only [into]
            refine Prod.ext ?_ ?_
            · apply Ly.ext' <;> dsimp only <;> omega
            · dsimp only; omega
          rw [e]
          simp [flow_zero]
end Go.Proofs.YtpldcikmlpegpaaDoor.Plain
end
section
namespace Go.Proofs.YtpldcikmlpegpaaDoor.Plain
open Go.RowKit Go.Proofs.YtpldcikmlpegpaaDoor.PB
def lose1 (l : Ly) (ls : List Ly) (more : Int) : List Ly × Int :=
  let wet := min (l.f1 + more) ((l.f0 - 1) / 20)
  let r := flow ls (l.f1 + more - wet)
  if l.f0 - 1 = 0 then r else (⟨l.f0 - 1, wet, l.f2⟩ :: r.1, r.2)
def vanish1 : List Ly → List Ly × Int
  | [] => ([], 0)
  | l :: ls => lose1 l ls 0
def melt1 : List Ly → List Ly × Int
  | [] => ([], 0)
  | l :: ls => if 0 < l.f2 then (⟨l.f0, l.f1, l.f2 - 1⟩ :: ls, 0) else lose1 l ls 1
def times (f : List Ly → List Ly × Int) : Nat → List Ly → List Ly × Int × Int
  | 0, L => (L, 0, 0)
  | _ + 1, [] => ([], 0, 0)
  | n + 1, l :: ls => ((times f n (f (l :: ls)).1).1, (f (l :: ls)).2 + (times f n (f (l :: ls)).1).2.1, 1 + (times f n (f (l :: ls)).1).2.2)
def Live (ls : List Ly) : Prop := ∀ l ∈ ls, Fit l ∧ 1 ≤ l.f0
theorem Live.fits {ls : List Ly} (h : Live ls) : Fits ls := fun l hl => (h l hl).1
theorem Live.nil : Live [] := by intro l h; cases h
theorem Live.cons {l : Ly} {ls : List Ly} (h : Fit l) (h1 : 1 ≤ l.f0) (hs : Live ls) : Live (l :: ls) := by
  intro x hx
  rcases List.mem_cons.mp hx with rfl | hx
  · exact ⟨h, h1⟩
  · exact hs x hx
theorem Live.head {l : Ly} {ls : List Ly} (h : Live (l :: ls)) : Fit l ∧ 1 ≤ l.f0 := h l List.mem_cons_self
theorem Live.tail {l : Ly} {ls : List Ly} (h : Live (l :: ls)) : Live ls := fun x hx => h x (List.mem_cons_of_mem _ hx)
theorem flow_live {ls : List Ly} : ∀ {m : Int}, Live ls → 0 ≤ m → Live (flow ls m).1 := by
  induction ls with
  | nil => intro m h hm; exact Live.nil
  | cons l ls ih =>
    intro m h hm
    simp only [flow]
    split
    · obtain ⟨f, r⟩ := into_fit h.head.1 hm
      have := (into_cold h.head.1 hm).2
      exact Live.cons f (by have := h.head.2; omega) (ih h.tail r)
    · exact h
theorem lose1_rest {l : Ly} {more : Int} (h : Fit l) (h1 : 1 ≤ l.f0) (hm : 0 ≤ more) : 0 ≤ l.f1 + more - min (l.f1 + more) ((l.f0 - 1) / 20) ∧ 0 ≤ min (l.f1 + more) ((l.f0 - 1) / 20) := by
  obtain ⟨a, b, c, d⟩ := h
  omega
theorem lose1_live {l : Ly} {ls : List Ly} {more : Int} (h : Live (l :: ls)) (hm : 0 ≤ more) : Live (lose1 l ls more).1 ∧ 0 ≤ (lose1 l ls more).2 := by
  obtain ⟨f, h1⟩ := h.head
  obtain ⟨r0, w0⟩ := lose1_rest f h1 hm
  have g := flow_fit h.tail.fits r0
  have g' := flow_live h.tail r0
  simp only [lose1]
  split
  · exact ⟨g', g.2⟩
  · refine ⟨Live.cons ?_ ?_ g', g.2⟩
    · obtain ⟨a, b, c, d⟩ := f
      simp only [Fit]
      omega
    · dsimp only
      omega
theorem lose1_water {l : Ly} {ls : List Ly} {more : Int} (h : Live (l :: ls)) (hm : 0 ≤ more) : water (lose1 l ls more).1 + (lose1 l ls more).2 = water (l :: ls) - 1 + more := by
  obtain ⟨f, h1⟩ := h.head
  have g := flow_water ls (l.f1 + more - min (l.f1 + more) ((l.f0 - 1) / 20))
  obtain ⟨a, b, c, d⟩ := f
  simp only [lose1]
  split
  · simp only [water]
    omega
  · simp only [water]
    omega
theorem lose1_cold {l : Ly} {ls : List Ly} {more : Int} (h : Live (l :: ls)) (hm : 0 ≤ more) : cold (lose1 l ls more).1 ≤ cold (l :: ls) := by
  obtain ⟨f, h1⟩ := h.head
  obtain ⟨r0, w0⟩ := lose1_rest f h1 hm
  have g := flow_cold h.tail.fits r0
  obtain ⟨a, b, c, d⟩ := f
  simp only [lose1]
  split
  · simp only [cold]; omega
  · simp only [cold]; omega
structure Round (f : List Ly → List Ly × Int) (d : Int) : Prop where
  live : ∀ {l ls}, Live (l :: ls) → Live (f (l :: ls)).1 ∧ 0 ≤ (f (l :: ls)).2
  water : ∀ {l ls}, Live (l :: ls) → water (f (l :: ls)).1 + (f (l :: ls)).2 + d = water (l :: ls)
  cold : ∀ {l ls}, Live (l :: ls) → cold (f (l :: ls)).1 ≤ cold (l :: ls)
  len : ∀ {l ls}, Live (l :: ls) → (f (l :: ls)).1.length ≤ (l :: ls).length
theorem lose1_len (l : Ly) (ls : List Ly) (more : Int) : (lose1 l ls more).1.length ≤ (l :: ls).length := by
  simp only [lose1]
  split <;> simp [flow_length]
theorem vanish_round : Round vanish1 1 where
  live h := lose1_live h (Int.le_refl _)
  water h := by have := lose1_water h (Int.le_refl 0); simp only [vanish1]; omega
  cold h := lose1_cold h (Int.le_refl _)
  len _ := lose1_len _ _ _
theorem melt_round : Round melt1 0 where
  live {l ls} h := by
    simp only [melt1]
    split
    · rename_i h2
      obtain ⟨⟨a, b, c, d⟩, h1⟩ := h.head
      exact ⟨Live.cons (by simp only [Fit]; omega) h1 h.tail, Int.le_refl _⟩
    · exact lose1_live h (by omega)
  water {l ls} h := by
    simp only [melt1]
    split
    · simp only [water]; omega
    · have := lose1_water h (show (0 : Int) ≤ 1 by omega); omega
  cold {l ls} h := by
    simp only [melt1]
    split
    · simp only [cold]; omega
    · exact lose1_cold h (by omega)
  len {l ls} h := by
    simp only [melt1]
    split
    · simp
    · exact lose1_len _ _ _
section
variable {f : List Ly → List Ly × Int} {d : Int}
end
def freezes : List Ly → Int → List Ly × Int
  | [], m => ([], m)
  | l :: ls, m => (⟨l.f0 + min m l.f1, l.f1 - min m l.f1, l.f2⟩ :: (freezes ls (m - min m l.f1)).1, (freezes ls (m - min m l.f1)).2)
def chill : List Ly → Int → List Ly
  | [], _ => []
  | l :: ls, m => ⟨l.f0, l.f1, l.f2 + m⟩ :: ls
def freeze (ls : List Ly) (m : Int) : List Ly := chill (freezes ls m).1 (freezes ls m).2
theorem freezes_fit {ls : List Ly} : ∀ {m : Int}, Live ls → 0 ≤ m → Live (freezes ls m).1 ∧ 0 ≤ (freezes ls m).2 ∧ (freezes ls m).2 ≤ m ∧ water (freezes ls m).1 = water ls ∧ cold (freezes ls m).1 = cold ls ∧ (freezes ls m).1.length = ls.length := by
  induction ls with
  | nil => intro m h hm; exact ⟨Live.nil, hm, Int.le_refl _, rfl, rfl, rfl⟩
  | cons l ls ih =>
    intro m h hm
    obtain ⟨⟨a, b, c, d⟩, h1⟩ := h.head
    obtain ⟨i1, i2, i3, i4, i5, i6⟩ := ih (m := m - min m l.f1) h.tail (by omega)
    simp only [freezes]
    refine ⟨Live.cons ?_ ?_ i1, i2, by omega, ?_, ?_, ?_⟩
    · simp only [Fit]; omega
    · dsimp only; omega
    · simp only [water]; omega
    · simp only [cold]; omega
    · simp [i6]
end Go.Proofs.YtpldcikmlpegpaaDoor.Plain
end
section
namespace Go.Proofs.YtpldcikmlpegpaaDoor.Plain
open Go.RowKit Go.Proofs.YtpldcikmlpegpaaDoor.PB
theorem wr (x : Int) (h : -9223372036854775808 ≤ x ∧ x ≤ 9223372036854775807) : wrap64 x = x := by
  unfold wrap64
  omega
def Right (l : Ly) : Prop := 1 ≤ l.f0 ∧ l.f0 ≤ 65536 ∧ 0 ≤ l.f2 ∧ l.f2 ≤ 65536 ∧ 0 ≤ l.f1 ∧ l.f1 ≤ l.f0 / 20 ∧ (l.f1 = 0 ∨ l.f2 = 0)
instance (l : Ly) : Decidable (Right l) := inferInstanceAs (Decidable (_ ∧ _))
def Rights (ls : List Ly) : Prop := ∀ l ∈ ls, Right l
instance (ls : List Ly) : Decidable (Rights ls) := inferInstanceAs (Decidable (∀ l ∈ ls, Right l))
def Valid (ls : List Ly) : Prop := ls.length ≤ 64 ∧ Rights ls ∧ water ls ≤ 65536 ∧ cold ls ≤ 65536
instance (ls : List Ly) : Decidable (Valid ls) := inferInstanceAs (Decidable (_ ∧ _))
def checkE (ls : List Ly) : Int := if Valid ls then 0 else 20
theorem Right.live {l : Ly} (h : Right l) : Fit l ∧ 1 ≤ l.f0 := by
  obtain ⟨a, b, c, d, e, f, g⟩ := h
  unfold Fit
  omega
theorem Rights.live {ls : List Ly} (h : Rights ls) : Live ls := fun l hl => (h l hl).live
theorem Rights.head {l : Ly} {ls : List Ly} (h : Rights (l :: ls)) : Right l := h l List.mem_cons_self
theorem Rights.tail {l : Ly} {ls : List Ly} (h : Rights (l :: ls)) : Rights ls := fun x hx => h x (List.mem_cons_of_mem _ hx)
theorem Valid.live {ls : List Ly} (h : Valid ls) : Live ls := h.2.1.live
theorem from_eq (a b c : Int) : pack_from.f a b c = some (decide (b ≤ a ∧ a ≤ c)) := by
  unfold pack_from.f
  by_cases h : a ≥ b
  · rw [if_pos h]; congr 1; simp; omega
  · rw [if_neg h]; congr 1; symm; simp; omega
theorem some_true {p : Prop} [Decidable p] (h : p) : (some true : Option Bool) = some (decide p) := by rw [decide_eq_true h]
theorem some_false {p : Prop} [Decidable p] (h : ¬ p) : (some false : Option Bool) = some (decide p) := by rw [decide_eq_false h]
theorem right_eq (a b c : Int) : pack_right.f a b c = some (decide (Right ⟨a, b, c⟩)) := by
  unfold pack_right.f
  simp only [from_eq, Option.bind_some, pack_hold.f, decide_eq_true_eq]
  by_cases h1 : 1 ≤ a ∧ a ≤ 65536
  · have ht : wrap64 (Int.tdiv a 20) = a / 20 := by rw [Int.tdiv_eq_ediv_of_nonneg (by omega), wr _ (by omega)]
    rw [if_pos h1]
    by_cases h2 : 0 ≤ c ∧ c ≤ 65536
    · rw [if_pos h2, ht]
      by_cases h3 : 0 ≤ b ∧ b ≤ a / 20
      · rw [if_pos h3]
        by_cases h4 : b = 0
        · rw [if_pos h4]; exact some_true ⟨h1.1, h1.2, h2.1, h2.2, h3.1, h3.2, .inl h4⟩
        · rw [if_neg h4]
          by_cases h5 : c = 0
          · rw [show (c == 0) = true by simp [h5]]; exact some_true ⟨h1.1, h1.2, h2.1, h2.2, h3.1, h3.2, .inr h5⟩
          · rw [show (c == 0) = false by simp [h5]]; exact some_false (fun h => h.2.2.2.2.2.2.elim h4 h5)
      · rw [if_neg h3]; exact some_false (fun h => h3 ⟨h.2.2.2.2.1, h.2.2.2.2.2.1⟩)
    · rw [if_neg h2]; exact some_false (fun h => h2 ⟨h.2.2.1, h.2.2.2.1⟩)
  · rw [if_neg h1]; exact some_false (fun h => h1 ⟨h.1, h.2.1⟩)
theorem rd_drop {ls : List Ly} {i : Nat} (h : i < ls.length) : ls.drop i = rd_T48 ls (i : Int) :: ls.drop (i + 1) := by
  rw [List.drop_eq_getElem_cons h]
  congr 1
  simp [rd_T48, List.getD_eq_getElem?_getD, h]
theorem sums_loop (ls : List Ly) (hr : Rights ls) (hl : ls.length ≤ 128) : ∀ (d k i : Nat) (w c : Int), i + d = ls.length → d < k → 0 ≤ w → w ≤ 131072 * (i : Int) → 0 ≤ c → c ≤ 65536 * (i : Int) →
    pack_sums.l0 k w c ls (ls.length : Int) (i : Int) = some (w + water (ls.drop i), c + cold (ls.drop i)) := by
  intro d
  induction d with
  | zero =>
    intro k i w c hi hk _ _ _ _
    obtain ⟨k, rfl⟩ : ∃ j, k = j + 1 := ⟨k - 1, by omega⟩
    unfold pack_sums.l0
    rw [if_neg (by omega), List.drop_eq_nil_of_le (by omega)]
    simp [water, cold]
  | succ d ih =>
    intro k i w c hi hk h0 h1 h2 h3
    obtain ⟨k, rfl⟩ : ∃ j, k = j + 1 := ⟨k - 1, by omega⟩
    have hm : Right (rd_T48 ls (i : Int)) := hr _ (by
      have : rd_T48 ls (i : Int) ∈ ls.drop i := by rw [rd_drop (by omega)]; exact List.mem_cons_self
      exact List.mem_of_mem_drop this)
    obtain ⟨a, b, cc, dd, e, f, g⟩ := hm
    unfold pack_sums.l0
    rw [if_pos (by omega), if_pos (by omega), if_pos (by omega)]
    rw [rd_drop (show i < ls.length by omega)]
    simp only [water, cold]
    rw [wr ((rd_T48 ls (i : Int)).f0 + _) (by omega), wr (w + _) (by omega), wr (c + _) (by omega), wr ((i : Int) + 1) (by omega)]
    have := ih k (i + 1) (w + ((rd_T48 ls (i : Int)).f0 + (rd_T48 ls (i : Int)).f1)) (c + (rd_T48 ls (i : Int)).f2) (by omega) (by omega) (by omega) (by push_cast; omega) (by omega) (by push_cast; omega)
    push_cast at this
    rw [this]
    congr 2 <;> omega
theorem sums_eq {k : Nat} {ls : List Ly} (hr : Rights ls) (hl : ls.length ≤ 128) (hk : ls.length < k) : pack_sums.f k ls = some (water ls, cold ls) := by
  unfold pack_sums.f
  have := sums_loop ls hr hl ls.length k 0 0 0 (by omega) hk (by omega) (by omega) (by omega) (by omega)
  simpa using this
theorem check_loop (ls : List Ly) (hl : ls.length ≤ 64) : ∀ (d k i : Nat), i + d = ls.length → d + 65 < k → Rights (ls.take i) →
    pack_Check.l0 k ls (ls.length : Int) (i : Int) ls = some (checkE ls) := by
  intro d
  induction d with
  | zero =>
    intro k i hi hk h
    obtain ⟨k, rfl⟩ : ∃ j, k = j + 1 := ⟨k - 1, by omega⟩
    rw [List.take_of_length_le (by omega)] at h
    unfold pack_Check.l0
    rw [if_neg (by omega), sums_eq h (by omega) (by omega)]
    simp only [Option.bind_some, checkE]
    by_cases hw : water ls > 65536
    · rw [if_pos hw, if_neg (fun hv : Valid ls => by have := hv.2.2.1; omega)]
    · rw [if_neg hw]
      by_cases hc : cold ls > 65536
      · rw [if_pos hc, if_neg (fun hv : Valid ls => by have := hv.2.2.2; omega)]
      · rw [if_neg hc, if_pos (show Valid ls from ⟨hl, h, by omega, by omega⟩)]
  | succ d ih =>
    intro k i hi hk h
    obtain ⟨k, rfl⟩ : ∃ j, k = j + 1 := ⟨k - 1, by omega⟩
    unfold pack_Check.l0
    rw [if_pos (by omega), if_pos (by omega), if_pos (by omega), right_eq]
    simp only [Option.bind_some, decide_eq_true_eq]
    have hd := rd_drop (show i < ls.length by omega)
    by_cases hr : Right (rd_T48 ls (i : Int))
    · rw [if_pos (by exact hr), wr ((i : Int) + 1) (by omega)]
      have := ih k (i + 1) (by omega) (by omega) (by
        intro x hx
        rw [List.take_add_one] at hx
        rcases List.mem_append.mp hx with hx | hx
        · exact h x hx
        · have e : ls[i]?.toList = [rd_T48 ls (i : Int)] := by
            simp [rd_T48, List.getD_eq_getElem?_getD, show i < ls.length by omega]
          rw [e] at hx
          rw [List.mem_singleton.mp hx]
          exact hr)
      push_cast at this
      exact this
    · rw [if_neg (by exact hr), checkE, if_neg]
      intro hv
      exact hr (hv.2.1 _ (by
        have : rd_T48 ls (i : Int) ∈ ls.drop i := by rw [hd]; exact List.mem_cons_self
        exact List.mem_of_mem_drop this))
theorem check_eq {k : Nat} (hk : 130 ≤ k) (ls : List Ly) : pack_Check.f k ls = some (checkE ls) := by
  unfold pack_Check.f
  by_cases h : (ls.length : Int) > 64
  · rw [if_pos h, checkE, if_neg (by rintro ⟨h1, _⟩; omega)]
  · rw [if_neg h]
    exact check_loop ls (by omega) ls.length k 0 (by omega) (by omega) (by intro x hx; simp at hx)
theorem checkE_zero {ls : List Ly} : checkE ls = 0 ↔ Valid ls := by
  unfold checkE
  split <;> simp_all
theorem checkE_pos {ls : List Ly} (h : Valid ls) : checkE ls = 0 := checkE_zero.2 h
theorem checkE_neg {ls : List Ly} (h : ¬ Valid ls) : checkE ls = 20 := if_neg h
instance : DecidableEq Ly := fun a b => decidable_of_iff (a.f0 = b.f0 ∧ a.f1 = b.f1 ∧ a.f2 = b.f2) ⟨fun h => Ly.ext' h.1 h.2.1 h.2.2, fun h => by rw [h]; exact ⟨rfl, rfl, rfl⟩⟩
theorem same_loop (xs ys : List Ly) (hl : xs.length = ys.length) (h64 : xs.length ≤ 4096) : ∀ (d k i : Nat), i + d = xs.length → d < k → xs.take i = ys.take i →
    snowlineref02_Same.l0 k (i : Int) xs ys = some (decide (xs = ys)) := by
  intro d
  induction d with
  | zero =>
    intro k i hi hk h
    obtain ⟨k, rfl⟩ : ∃ j, k = j + 1 := ⟨k - 1, by omega⟩
    rw [List.take_of_length_le (by omega), List.take_of_length_le (by omega)] at h
    unfold snowlineref02_Same.l0
    rw [if_neg (by omega)]
    exact some_true h
  | succ d ih =>
    intro k i hi hk h
    obtain ⟨k, rfl⟩ : ∃ j, k = j + 1 := ⟨k - 1, by omega⟩
    unfold snowlineref02_Same.l0
    rw [if_pos (by omega), if_pos (by omega), if_pos (by omega)]
    have hx := rd_drop (show i < xs.length by omega)
    have hy := rd_drop (show i < ys.length by omega)
    by_cases hr : rd_T48 xs (i : Int) = rd_T48 ys (i : Int)
    · rw [hr]
      simp only [BEq.rfl, Bool.not_true, Bool.or_self]
      rw [if_neg (by simp), wr ((i : Int) + 1) (by omega)]
      have := ih k (i + 1) (by omega) (by omega) (by
        have e : ∀ (zs : List Ly), i < zs.length → zs[i]?.toList = [rd_T48 zs (i : Int)] := by
          intro zs hz
          simp [rd_T48, List.getD_eq_getElem?_getD, hz]
        rw [List.take_add_one, List.take_add_one, h, e xs (by omega), e ys (by omega), hr])
      push_cast at this
      exact this
    · rw [if_pos]
      · refine some_false ?_
        rintro rfl
        exact hr rfl
      · by_cases h0 : (rd_T48 xs (i : Int)).f0 = (rd_T48 ys (i : Int)).f0 <;> by_cases h1 : (rd_T48 xs (i : Int)).f1 = (rd_T48 ys (i : Int)).f1 <;> by_cases h2 : (rd_T48 xs (i : Int)).f2 = (rd_T48 ys (i : Int)).f2 <;> simp [h0, h1, h2]
        exact hr (Ly.ext' h0 h1 h2)
theorem same_eq {k : Nat} {xs ys : List Ly} (h64 : xs.length ≤ 4096) (hk : xs.length < k) : snowlineref02_Same.f k xs ys = some (decide (xs = ys)) := by
  unfold snowlineref02_Same.f
  by_cases h : (xs.length : Int) = (ys.length : Int)
  · rw [if_pos h]
    exact same_loop xs ys (by omega) h64 xs.length k 0 (by omega) hk rfl
  · rw [if_neg h]
    refine some_false ?_
    rintro rfl
    exact h rfl
end Go.Proofs.YtpldcikmlpegpaaDoor.Plain
end
section
namespace Go.Proofs.YtpldcikmlpegpaaDoor.Plain
open Go.RowKit Go.Proofs.YtpldcikmlpegpaaDoor.PB Go.Proofs.YtpldcikmlpegpaaDoor.Col Go.Proofs.YtpldcikmlpegpaaDoorW.PrintWords Go.Proofs.YtpldcikmlpegpaaDoorW.PrintMore
theorem mn_min (a b : Int) : mn a b = min a b := by unfold mn; split <;> omega
def St (c : C) (n : Nat) (L : List Ly) (o t : Int) : Prop :=
  c.n = n ∧ c.out = o ∧ c.taken = t ∧ ∃ pre post, c.at_ = pre ++ L ++ post ∧ pre.length = c.top ∧ c.top + L.length = n
theorem St.live {c : C} {n : Nat} {L : List Ly} {o t : Int} (h : St c n L o t) : c.live = L := by
  obtain ⟨h1, h2, h3, pre, post, h4, h5, h6⟩ := h
  unfold C.live
  rw [h4, ← h5, List.append_assoc, List.drop_left, show c.n - pre.length = L.length by omega, List.take_left]
theorem st_of (l : List Ly) : St (C.of l) (l.length + 1) l 0 0 :=
  ⟨rfl, rfl, rfl, [z48], List.replicate (64 - l.length) z48, rfl, rfl, by show 1 + l.length = _; omega⟩
theorem stepW_into {l : Ly} {m : Int} (h : Fit l) (hm : 0 ≤ m) (hw : l.f0 + l.f1 + m ≤ 1099511627776) (hc : l.f2 ≤ 1099511627776) : stepW l m = into l m := by
  obtain ⟨a, b, c, d⟩ := h
  have h0 : 0 ≤ l.f0 + min m l.f2 := by omega
  unfold stepW into
  simp only [mn_min]
  rw [wr (l.f0 + min m l.f2) (by omega), Int.tdiv_eq_ediv_of_nonneg h0, wr (m - min m l.f2) (by omega), wr ((l.f0 + min m l.f2) / 20) (by omega), wr ((l.f0 + min m l.f2) / 20 - l.f1) (by omega)]
  rw [wr (l.f1 + _) (by omega), wr (l.f2 - _) (by omega), wr (m - min m l.f2 - _) (by omega)]
theorem get_mid (pre : List Ly) (l : Ly) (post : List Ly) : (pre ++ l :: post).getD pre.length z48 = l := by
  simp [List.getD_eq_getElem?_getD]
theorem set_mid (pre : List Ly) (l x : Ly) (post : List Ly) : (pre ++ l :: post).set pre.length x = pre ++ x :: post := by
  simp
theorem flowAt_flow : ∀ (L pre post : List Ly) (m : Int), Fits L → 0 ≤ m → water L + m ≤ 1099511627776 → cold L ≤ 1099511627776 →
    flowAt L.length (pre ++ L ++ post) pre.length m = (pre ++ (flow L m).1 ++ post, (flow L m).2) := by
  intro L
  induction L with
  | nil => intro pre post m _ _ _ _; rfl
  | cons l ls ih =>
    intro pre post m hf hm hw hc
    have f := hf.head
    have w0 := water_nonneg hf.tail
    have c0 := cold_nonneg hf.tail
    simp only [water, cold] at hw hc
    obtain ⟨a, b, c, d⟩ := f
    simp only [List.length_cons, flowAt, flow]
    split
    · have e : pre ++ (l :: ls) ++ post = pre ++ l :: (ls ++ post) := by simp
      have hs : stepW l m = into l m := stepW_into hf.head hm (by omega) (by omega)
      rw [e, get_mid, set_mid, hs]
      obtain ⟨g, r⟩ := into_fit hf.head hm
      have hiw := into_water l m
      have hg := g
      obtain ⟨a', b', c', d'⟩ := hg
      have e2 : pre ++ (into l m).1 :: (ls ++ post) = (pre ++ [(into l m).1]) ++ ls ++ post := by simp
      have e3 : pre.length + 1 = (pre ++ [(into l m).1]).length := by simp
      rw [e2, e3, ih (pre ++ [(into l m).1]) post (into l m).2 hf.tail r (by omega) (by omega)]
      simp
    · rfl
theorem c_lose {c : C} {n : Nat} {l : Ly} {ls : List Ly} {o t more : Int} (h : St c n (l :: ls) o t) (hl : Live (l :: ls)) (hm : 0 ≤ more) (hm1 : more ≤ 1) (ho : 0 ≤ o) (hw : water (l :: ls) + o ≤ 549755813888) (hc : cold (l :: ls) ≤ 549755813888) :
    St (c.lose more) n (lose1 l ls more).1 (o + (lose1 l ls more).2) t := by
  obtain ⟨h1, h2, h3, pre, post, h4, h5, h6⟩ := h
  have hk := lose1_live hl hm
  have hkw := lose1_water hl hm
  have wn := water_nonneg hk.1.fits
  obtain ⟨⟨a, b, cc, d⟩, i1⟩ := hl.head
  have w0 := water_nonneg hl.tail.fits
  have c0 := cold_nonneg hl.tail.fits
  have hw' := hw
  have hc' := hc
  simp only [water, cold] at hw' hc'
  obtain ⟨r0, r1⟩ := lose1_rest (more := more) hl.head.1 hl.head.2 hm
  have e : pre ++ (l :: ls) ++ post = pre ++ l :: (ls ++ post) := by simp
  have hd : 0 ≤ l.f0 - 1 := by omega
  have hL : loseW l more = (⟨l.f0 - 1, min (l.f1 + more) ((l.f0 - 1) / 20), l.f2⟩, l.f1 + more - min (l.f1 + more) ((l.f0 - 1) / 20)) := by
    unfold loseW
    simp only [mn_min]
    rw [wr (l.f0 - 1) (by omega), wr (l.f1 + more) (by omega), Int.tdiv_eq_ediv_of_nonneg hd, wr ((l.f0 - 1) / 20) (by omega), wr (l.f1 + more - _) (by omega)]
  have hln : c.n - (c.top + 1) = ls.length := by simp only [List.length_cons] at h6; omega
  have hfl := flowAt_flow ls (pre ++ [⟨l.f0 - 1, min (l.f1 + more) ((l.f0 - 1) / 20), l.f2⟩]) post (l.f1 + more - min (l.f1 + more) ((l.f0 - 1) / 20)) hl.tail.fits r0 (by omega) (by omega)
  have e2 : pre ++ (⟨l.f0 - 1, min (l.f1 + more) ((l.f0 - 1) / 20), l.f2⟩ : Ly) :: (ls ++ post) = (pre ++ [⟨l.f0 - 1, min (l.f1 + more) ((l.f0 - 1) / 20), l.f2⟩]) ++ ls ++ post := by simp
  have e3 : pre.length + 1 = (pre ++ [(⟨l.f0 - 1, min (l.f1 + more) ((l.f0 - 1) / 20), l.f2⟩ : Ly)]).length := by simp
  have hat : c.at_.getD c.top z48 = l := by rw [h4, ← h5, e, get_mid]
  have hset : c.at_.set c.top (loseW l more).1 = (pre ++ [⟨l.f0 - 1, min (l.f1 + more) ((l.f0 - 1) / 20), l.f2⟩]) ++ ls ++ post := by rw [h4, ← h5, e, set_mid, hL, ← e2]
  have hr : flowAt (c.n - (c.top + 1)) (c.at_.set c.top (loseW l more).1) (c.top + 1) (loseW l more).2 = ((pre ++ [⟨l.f0 - 1, min (l.f1 + more) ((l.f0 - 1) / 20), l.f2⟩]) ++ (flow ls (l.f1 + more - min (l.f1 + more) ((l.f0 - 1) / 20))).1 ++ post, (flow ls (l.f1 + more - min (l.f1 + more) ((l.f0 - 1) / 20))).2) := by
    rw [hset, hln, hL, ← h5, e3]
    exact hfl
  have hsnd : (lose1 l ls more).2 = (flow ls (l.f1 + more - min (l.f1 + more) ((l.f0 - 1) / 20))).2 := by
    simp only [lose1]
    split <;> rfl
  have hfl' : (flow ls (l.f1 + more - min (l.f1 + more) ((l.f0 - 1) / 20))).1.length = ls.length := flow_length _ _
  unfold C.lose
  simp only [hat, hr]
  refine ⟨h1, ?_, h3, ?_⟩
  · show wrap64 (c.out + _) = _
    rw [h2, ← hsnd, wr _ (by omega)]
  · rw [wr (l.f0 - 1) (by omega)]
    simp only [lose1]
    simp only [List.length_cons] at h6
    by_cases hz : l.f0 - 1 = 0
    · rw [if_pos hz, if_pos hz]
      exact ⟨_, post, rfl, by simp [h5], by rw [hfl']; omega⟩
    · rw [if_neg hz, if_neg hz]
      exact ⟨pre, post, by simp, h5, by simp only [List.length_cons]; rw [hfl']; omega⟩
theorem c_melt {c : C} {n : Nat} {l : Ly} {ls : List Ly} {o t : Int} (h : St c n (l :: ls) o t) (hl : Live (l :: ls)) (ho : 0 ≤ o) (hw : water (l :: ls) + o ≤ 549755813888) (hc : cold (l :: ls) ≤ 549755813888) :
    St c.melt n (melt1 (l :: ls)).1 (o + (melt1 (l :: ls)).2) (t + 0) := by
  obtain ⟨h1, h2, h3, pre, post, h4, h5, h6⟩ := id h
  have e : pre ++ (l :: ls) ++ post = pre ++ l :: (ls ++ post) := by simp
  have hat : c.at_.getD c.top z48 = l := by rw [h4, ← h5, e, get_mid]
  have c0 := cold_nonneg hl.tail.fits
  have hc' := hc
  simp only [cold] at hc'
  unfold C.melt
  simp only [hat, melt1, Int.add_zero]
  split
  · refine ⟨h1, by simpa using h2, h3, pre, post, ?_, h5, by simpa using h6⟩
    show c.at_.set c.top _ = _
    rw [h4, ← h5, e, set_mid, wr (l.f2 - 1) (by omega)]
    simp
  · exact c_lose h hl (by omega) (by omega) ho hw hc
theorem c_vanish {c : C} {n : Nat} {l : Ly} {ls : List Ly} {o t : Int} (h : St c n (l :: ls) o t) (hl : Live (l :: ls)) (ho : 0 ≤ o) (ht : 0 ≤ t ∧ t ≤ 549755813888) (hw : water (l :: ls) + o ≤ 549755813888) (hc : cold (l :: ls) ≤ 549755813888) :
    St c.vanish n (vanish1 (l :: ls)).1 (o + (vanish1 (l :: ls)).2) (t + 1) := by
  obtain ⟨h1, h2, h3, r⟩ := c_lose h hl (Int.le_refl 0) (by omega) ho hw hc
  unfold C.vanish
  refine ⟨h1, h2, ?_, r⟩
  show wrap64 (c.taken + 1) = _
  rw [h.2.2.1, wr _ (by omega)]
theorem c_times {F : C → C} {f : List Ly → List Ly × Int} {d : Int} (hd : 0 ≤ d ∧ d ≤ 1) (hf : Round f d)
    (hF : ∀ {c : C} {n : Nat} {l : Ly} {ls : List Ly} {o t : Int}, St c n (l :: ls) o t → Live (l :: ls) → 0 ≤ o → 0 ≤ t → t ≤ 549755813888 → water (l :: ls) + o ≤ 549755813888 → cold (l :: ls) ≤ 549755813888 → St (F c) n (f (l :: ls)).1 (o + (f (l :: ls)).2) (t + d)) :
    ∀ (k : Nat) {c : C} {n : Nat} {L : List Ly} {o t : Int}, St c n L o t → Live L → 0 ≤ o → 0 ≤ t → t + (k : Int) ≤ 549755813888 → water L + o ≤ 549755813888 → cold L ≤ 549755813888 →
      St (C.times F k c) n (times f k L).1 (o + (times f k L).2.1) (t + d * (times f k L).2.2) := by
  intro k
  induction k with
  | zero => intro c n L o t h _ _ _ _ _ _; simpa [C.times, times] using h
  | succ k ih =>
    intro c n L o t h hl ho ht htk hw hc
    obtain ⟨h1, h2, h3, pre, post, h4, h5, h6⟩ := id h
    cases L with
    | nil =>
      simp only [List.length_nil] at h6
      simp only [C.times, times]
      rw [if_pos (by omega)]
      simpa using h
    | cons l ls =>
      simp only [List.length_cons] at h6
      simp only [C.times, times]
      rw [if_neg (by omega)]
      have hr := hF h hl ho ht (by omega) hw hc
      obtain ⟨q1, q2⟩ := hf.live hl
      have q3 := hf.water hl
      have q4 := hf.cold hl
      have := ih hr q1 (by omega) (by omega) (by push_cast at htk; omega) (by omega) (by omega)
      have e : o + (f (l :: ls)).2 + (times f k (f (l :: ls)).1).2.1 = o + ((f (l :: ls)).2 + (times f k (f (l :: ls)).1).2.1) := by omega
      have e' : t + d + d * (times f k (f (l :: ls)).1).2.2 = t + d * (1 + (times f k (f (l :: ls)).1).2.2) := by rw [Int.mul_add, Int.mul_one]; omega
      rw [e, e'] at this
      exact this
end Go.Proofs.YtpldcikmlpegpaaDoor.Plain
end
section
namespace Go.Proofs.YtpldcikmlpegpaaDoor.Plain
open Go.RowKit Go.Proofs.YtpldcikmlpegpaaDoor.PB Go.Proofs.YtpldcikmlpegpaaDoor.Col Go.Proofs.YtpldcikmlpegpaaDoorW.PrintWords Go.Proofs.YtpldcikmlpegpaaDoorW.PrintMore
theorem freezeAt_freezes : ∀ (L pre post : List Ly) (m : Int), Fits L → 0 ≤ m → m ≤ 549755813888 → water L ≤ 549755813888 →
    freezeAt L.length (pre ++ L ++ post) pre.length m = (pre ++ (freezes L m).1 ++ post, (freezes L m).2) := by
  intro L
  induction L with
  | nil => intro pre post m _ _ _ _; rfl
  | cons l ls ih =>
    intro pre post m hf hm hmm hw
    have w0 := water_nonneg hf.tail
    simp only [water] at hw
    obtain ⟨a, b, c, d⟩ := hf.head
    simp only [List.length_cons, freezeAt, freezes]
    have e : pre ++ (l :: ls) ++ post = pre ++ l :: (ls ++ post) := by simp
    rw [e, get_mid, set_mid, mn_min, wr (l.f0 + min m l.f1) (by omega), wr (l.f1 - min m l.f1) (by omega), wr (m - min m l.f1) (by omega)]
    have e2 : pre ++ (⟨l.f0 + min m l.f1, l.f1 - min m l.f1, l.f2⟩ : Ly) :: (ls ++ post) = (pre ++ [⟨l.f0 + min m l.f1, l.f1 - min m l.f1, l.f2⟩]) ++ ls ++ post := by simp
    have e3 : pre.length + 1 = (pre ++ [(⟨l.f0 + min m l.f1, l.f1 - min m l.f1, l.f2⟩ : Ly)]).length := by simp
    rw [e2, e3, ih _ post _ hf.tail (by omega) (by omega) (by omega)]
    simp
theorem c_freeze {c : C} {n : Nat} {L : List Ly} {o t m : Int} (h : St c n L o t) (hl : Live L) (hm : 0 ≤ m) (hmm : m ≤ 549755813888) (hw : water L ≤ 549755813888) (hc : cold L ≤ 549755813888) : St (c.freeze m) n (freeze L m) o t := by
  obtain ⟨h1, h2, h3, pre, post, h4, h5, h6⟩ := id h
  have hf := freezeAt_freezes L pre post m hl.fits hm hmm hw
  have hr : freezeAt (c.n - c.top) c.at_ c.top m = (pre ++ (freezes L m).1 ++ post, (freezes L m).2) := by
    rw [h4, ← h5, show c.n - pre.length = L.length by omega]
    exact hf
  obtain ⟨k1, k2, k3, k4, k5, k6⟩ := freezes_fit hl hm
  unfold C.freeze
  simp only [hr]
  cases hL : (freezes L m).1 with
  | nil =>
    have : L.length = 0 := by rw [hL] at k6; simpa using k6.symm
    rw [if_neg (by omega)]
    refine ⟨h1, h2, h3, pre, post, ?_, h5, ?_⟩
    · show pre ++ [] ++ post = _
      simp [freeze, hL, chill]
    · simp [freeze, hL, chill]; omega
  | cons x xs =>
    have hlen : L.length = xs.length + 1 := by rw [hL] at k6; simpa using k6.symm
    rw [if_pos (by omega)]
    have e : pre ++ (x :: xs) ++ post = pre ++ x :: (xs ++ post) := by simp
    have hx : cold (x :: xs) ≤ 549755813888 := by rw [← hL, k5]; exact hc
    have xl : Live (x :: xs) := by rw [← hL]; exact k1
    have c0 := cold_nonneg xl.tail.fits
    obtain ⟨a, b, cc, d⟩ := xl.head.1
    simp only [cold] at hx
    refine ⟨h1, h2, h3, pre, post, ?_, h5, ?_⟩
    · show (pre ++ (x :: xs) ++ post).set c.top _ = _
      rw [e, ← h5, get_mid, set_mid, wr (x.f2 + _) (by omega)]
      simp [freeze, hL, chill]
    · simp only [freeze, hL, chill, List.length_cons]
      omega
theorem c_rain {c : C} {n : Nat} {L : List Ly} {o t m : Int} (h : St c n L o t) (hl : Live L) (ho : 0 ≤ o) (hm : 0 ≤ m) (hw : water L + m + o ≤ 549755813888) (hc : cold L ≤ 549755813888) : St (c.rain m) n (flow L m).1 (o + (flow L m).2) t := by
  obtain ⟨h1, h2, h3, pre, post, h4, h5, h6⟩ := id h
  have hf := flowAt_flow L pre post m hl.fits hm (by omega) (by omega)
  have hr : flowAt (c.n - c.top) c.at_ c.top m = (pre ++ (flow L m).1 ++ post, (flow L m).2) := by
    rw [h4, ← h5, show c.n - pre.length = L.length by omega]
    exact hf
  have k1 := flow_fit hl.fits hm
  have k2 := flow_water L m
  have k3 := water_nonneg k1.1
  have k4 := flow_length L m
  unfold C.rain
  simp only [hr]
  refine ⟨h1, ?_, h3, pre, post, rfl, h5, ?_⟩
  · show wrap64 (c.out + _) = _
    rw [h2, wr _ (by omega)]
  · show c.top + _ = _
    omega
def StepOk (k m cd : Int) : Prop := (1 ≤ k ∧ k ≤ 6) ∧ (0 ≤ m ∧ m ≤ 65536) ∧ (0 ≤ cd ∧ cd ≤ if k = 1 then 65536 else 0)
instance (k m cd : Int) : Decidable (StepOk k m cd) := inferInstanceAs (Decidable (_ ∧ _))
def doStep (L : List Ly) (k m cd : Int) : List Ly × Int :=
  if k = 1 then (if 0 < m then (⟨m, 0, cd⟩ :: L, 0) else (L, 0)) else if k = 2 then flow L m
  else if k = 3 then ((times melt1 m.toNat L).1, (times melt1 m.toNat L).2.1)
  else if k = 4 then (freeze L m, 0) else ((times vanish1 m.toNat L).1, (times vanish1 m.toNat L).2.1)
def stepE (k m cd : Int) : Int := if StepOk k m cd then 0 else 21
def applyP (L : List Ly) (k m cd : Int) : List Ly × Int × Int :=
  if Valid L then (if StepOk k m cd then (if Valid (doStep L k m cd).1 then ((doStep L k m cd).1, (doStep L k m cd).2, 0) else ([], 0, 2)) else ([], 0, 21)) else ([], 0, 20)
theorem step_eq {j : Nat} (k m cd : Int) : pack_CheckStep.f (j + 1) k m cd = some (stepE k m cd) := by
  unfold pack_CheckStep.f stepE
  simp only [pack_CheckStep.j0, from_eq, Option.bind_some, decide_eq_true_eq]
  by_cases h1 : 1 ≤ k ∧ k ≤ 6
  · by_cases h2 : 0 ≤ m ∧ m ≤ 65536
    · by_cases hk : k = 1
      · by_cases h3 : 0 ≤ cd ∧ cd ≤ 65536
        · rw [if_pos hk, if_pos h1, if_pos h2, if_pos h3, if_pos (show StepOk k m cd from ⟨h1, h2, by rw [if_pos hk]; exact h3⟩)]
        · rw [if_pos hk, if_pos h1, if_pos h2, if_neg h3, if_neg (fun h : StepOk k m cd => h3 (by have := h.2.2; rw [if_pos hk] at this; exact this))]
      · by_cases h3 : 0 ≤ cd ∧ cd ≤ 0
        · rw [if_neg hk, if_pos h1, if_pos h2, if_pos h3, if_pos (show StepOk k m cd from ⟨h1, h2, by rw [if_neg hk]; exact h3⟩)]
        · rw [if_neg hk, if_pos h1, if_pos h2, if_neg h3, if_neg (fun h : StepOk k m cd => h3 (by have := h.2.2; rw [if_neg hk] at this; exact this))]
    · rw [if_neg (fun h : StepOk k m cd => h2 h.2.1)]
      split <;> rfl
  · rw [if_neg (fun h : StepOk k m cd => h1 h.1)]
    split <;> rfl
theorem Valid.bounds {L : List Ly} (h : Valid L) : water L + 0 ≤ 549755813888 ∧ cold L ≤ 549755813888 := by
  obtain ⟨_, _, a, b⟩ := h
  omega
theorem step_st {L : List Ly} {k m cd : Int} (hv : Valid L) (hs : StepOk k m cd) : ∃ t, St ((C.of L).step k m cd) (L.length + 1) (doStep L k m cd).1 (doStep L k m cd).2 t := by
  have h0 := st_of L
  obtain ⟨b1, b2⟩ := hv.bounds
  have hl := hv.live
  obtain ⟨hk, hm, hc⟩ := hs
  obtain ⟨_, _, v1, v2⟩ := id hv
  unfold C.step doStep
  by_cases k1 : k = 1
  · rw [if_pos k1, if_pos k1]
    split
    · refine ⟨0, rfl, rfl, rfl, [], List.replicate (64 - L.length) z48, rfl, rfl, ?_⟩
      show 0 + (L.length + 1) = _
      omega
    · exact ⟨0, h0⟩
  · rw [if_neg k1, if_neg k1]
    by_cases k2 : k = 2
    · rw [if_pos k2, if_pos k2]
      have := c_rain h0 hl (Int.le_refl 0) hm.1 (by omega) b2
      exact ⟨0, by simpa using this⟩
    · rw [if_neg k2, if_neg k2]
      by_cases k3 : k = 3
      · rw [if_pos k3, if_pos k3]
        have := c_times (F := C.melt) (d := 0) (by omega) melt_round (fun h hl ho _ _ hw hc => c_melt h hl ho hw hc) m.toNat h0 hl (Int.le_refl 0) (Int.le_refl 0) (by omega) b1 b2
        exact ⟨_, by simpa using this⟩
      · rw [if_neg k3, if_neg k3]
        by_cases k4 : k = 4
        · rw [if_pos k4, if_pos k4]
          exact ⟨0, c_freeze h0 hl hm.1 (by omega) (by omega) b2⟩
        · rw [if_neg k4, if_neg k4, if_pos (by omega)]
          have := c_times (F := C.vanish) (d := 1) (by omega) vanish_round (fun h hl ho ht ht2 hw hc => c_vanish h hl ho ⟨ht, ht2⟩ hw hc) m.toNat h0 hl (Int.le_refl 0) (Int.le_refl 0) (by omega) b1 b2
          exact ⟨_, by simpa using this⟩
theorem apply_eq (L : List Ly) (k m cd : Int) : pack_Apply.f L k m cd = some (applyP L k m cd) := by
  unfold pack_Apply.f applyP
  rw [check_eq (by omega), step_eq (j := 4)]
  simp only [Option.bind_some]
  by_cases hv : Valid L
  · rw [checkE_pos hv, if_pos rfl, if_pos hv]
    unfold stepE
    by_cases hs : StepOk k m cd
    · obtain ⟨t, hst⟩ := step_st hv hs
      rw [if_pos hs, if_pos rfl, if_pos hs, check_eq (by omega), hst.live, hst.2.1]
      simp only [Option.bind_some]
      by_cases hw : Valid (doStep L k m cd).1
      · rw [checkE_pos hw, if_pos rfl, if_pos hw]
      · rw [checkE_neg hw, if_neg (by omega), if_neg hw]
    · rw [if_neg hs, if_neg (by omega), if_neg hs]
  · rw [checkE_neg hv, if_neg (by omega), if_neg hv]
end Go.Proofs.YtpldcikmlpegpaaDoor.Plain
end
section
namespace Go.Proofs.YtpldcikmlpegpaaDoor.Plain
open Go.RowKit Go.Proofs.YtpldcikmlpegpaaDoor.PB Go.Proofs.YtpldcikmlpegpaaDoor.Col Go.Proofs.YtpldcikmlpegpaaDoorW.PrintWords Go.Proofs.YtpldcikmlpegpaaDoorW.PrintMore
def Ev {α : Type} (f : Nat → Option α) (r : α) : Prop := ∃ k0, ∀ k, k0 ≤ k → f k = some r
theorem Ev.pure {α : Type} {f : Nat → Option α} {r : α} (h : ∀ k, f k = some r) : Ev f r := ⟨0, fun k _ => h k⟩
theorem Ev.from {α : Type} {f : Nat → Option α} {r : α} (k0 : Nat) (h : ∀ k, k0 ≤ k → f k = some r) : Ev f r := ⟨k0, h⟩
theorem Ev.step {α : Type} {f g : Nat → Option α} {r : α} (h : ∀ k, f (k + 1) = g k) (hg : Ev g r) : Ev f r := by
  obtain ⟨k0, hk⟩ := hg
  refine ⟨k0 + 1, fun k hle => ?_⟩
  obtain ⟨k, rfl⟩ : ∃ j, k = j + 1 := ⟨k - 1, by omega⟩
  rw [h k, hk k (by omega)]
theorem Ev.same {α : Type} {f g : Nat → Option α} {r : α} (h : ∀ k, f k = g k) (hg : Ev g r) : Ev f r := by
  obtain ⟨k0, hk⟩ := hg
  exact ⟨k0, fun k hle => by rw [h k, hk k hle]⟩
theorem Ev.bind {α β : Type} {f : Nat → Option α} {g : Nat → α → Option β} {a : α} {r : β} (hf : Ev f a) (hg : Ev (fun k => g k a) r) : Ev (fun k => (f k).bind (g k)) r := by
  obtain ⟨k0, h0⟩ := hf
  obtain ⟨k1, h1⟩ := hg
  exact ⟨max k0 k1, fun k hk => by simp only [h0 k (by omega), Option.bind_some]; exact h1 k (by omega)⟩
theorem Ev.some {α : Type} {f : Nat → Option α} {r : α} (h : Ev f r) : ∃ k, f k = Option.some r := by
  obtain ⟨k0, h0⟩ := h
  exact ⟨k0, h0 k0 (Nat.le_refl _)⟩
theorem within_eq (a b c : Int) : snowlineref02_within.f a b c = some (decide (b ≤ a ∧ a ≤ c)) := from_eq a b c
theorem layer_eq (a b c : Int) : snowlineref02_layer.f a b c = some (decide (Right ⟨a, b, c⟩)) := by
  unfold snowlineref02_layer.f
  simp only [within_eq, Option.bind_some, snowlineref02_hold.f, decide_eq_true_eq]
  by_cases h1 : 1 ≤ a ∧ a ≤ 65536
  · have ht : wrap64 (Int.tdiv a 20) = a / 20 := by rw [Int.tdiv_eq_ediv_of_nonneg (by omega), wr _ (by omega)]
    rw [if_pos h1, ht]
    by_cases h3 : 0 ≤ b ∧ b ≤ a / 20
    · rw [if_pos h3]
      by_cases h2 : 0 ≤ c ∧ c ≤ 65536
      · rw [if_pos h2]
        by_cases h4 : b = 0
        · rw [if_pos h4]; exact some_true ⟨h1.1, h1.2, h2.1, h2.2, h3.1, h3.2, .inl h4⟩
        · rw [if_neg h4]
          by_cases h5 : c = 0
          · rw [show (c == 0) = true by simp [h5]]; exact some_true ⟨h1.1, h1.2, h2.1, h2.2, h3.1, h3.2, .inr h5⟩
          · rw [show (c == 0) = false by simp [h5]]; exact some_false (fun h => h.2.2.2.2.2.2.elim h4 h5)
      · rw [if_neg h2]; exact some_false (fun h => h2 ⟨h.2.2.1, h.2.2.2.1⟩)
    · rw [if_neg h3]; exact some_false (fun h => h3 ⟨h.2.2.2.2.1, h.2.2.2.2.2.1⟩)
  · rw [if_neg h1]; exact some_false (fun h => h1 ⟨h.1, h.2.1⟩)
theorem rwater_loop (ls : List Ly) (hr : Rights ls) (hl : ls.length ≤ 128) : ∀ (d k i : Nat) (w : Int), i + d = ls.length → d < k → 0 ≤ w → w ≤ 131072 * (i : Int) →
    snowlineref02_water.l0 k ls w (i : Int) = some (w + water (ls.drop i)) := by
  intro d
  induction d with
  | zero =>
    intro k i w hi hk _ _
    obtain ⟨k, rfl⟩ : ∃ j, k = j + 1 := ⟨k - 1, by omega⟩
    unfold snowlineref02_water.l0
    rw [if_neg (by omega), List.drop_eq_nil_of_le (by omega)]
    simp [water]
  | succ d ih =>
    intro k i w hi hk h0 h1
    obtain ⟨k, rfl⟩ : ∃ j, k = j + 1 := ⟨k - 1, by omega⟩
    have hm : Right (rd_T48 ls (i : Int)) := hr _ (by
      have : rd_T48 ls (i : Int) ∈ ls.drop i := by rw [rd_drop (by omega)]; exact List.mem_cons_self
      exact List.mem_of_mem_drop this)
    obtain ⟨a, b, cc, dd, e, f, g⟩ := hm
    unfold snowlineref02_water.l0
    rw [if_pos (by omega), if_pos (by omega)]
    rw [rd_drop (show i < ls.length by omega)]
    simp only [water]
    rw [wr (w + _) (by omega), wr (w + _ + _) (by omega), wr ((i : Int) + 1) (by omega)]
    have := ih k (i + 1) (w + (rd_T48 ls (i : Int)).f0 + (rd_T48 ls (i : Int)).f1) (by omega) (by omega) (by omega) (by push_cast; omega)
    push_cast at this
    rw [this]
    congr 1
    omega
theorem rwater_eq {k : Nat} {ls : List Ly} (hr : Rights ls) (hl : ls.length ≤ 128) (hk : ls.length < k) : snowlineref02_water.f k ls = some (water ls) := by
  unfold snowlineref02_water.f
  have := rwater_loop ls hr hl ls.length k 0 0 (by omega) hk (by omega) (by omega)
  simpa using this
theorem rcold_loop (ls : List Ly) (hr : Rights ls) (hl : ls.length ≤ 128) : ∀ (d k i : Nat) (w : Int), i + d = ls.length → d < k → 0 ≤ w → w ≤ 131072 * (i : Int) →
    snowlineref02_cold.l0 k ls w (i : Int) = some (w + cold (ls.drop i)) := by
  intro d
  induction d with
  | zero =>
    intro k i w hi hk _ _
    obtain ⟨k, rfl⟩ : ∃ j, k = j + 1 := ⟨k - 1, by omega⟩
    unfold snowlineref02_cold.l0
    rw [if_neg (by omega), List.drop_eq_nil_of_le (by omega)]
    simp [cold]
  | succ d ih =>
    intro k i w hi hk h0 h1
    obtain ⟨k, rfl⟩ : ∃ j, k = j + 1 := ⟨k - 1, by omega⟩
    have hm : Right (rd_T48 ls (i : Int)) := hr _ (by
      have : rd_T48 ls (i : Int) ∈ ls.drop i := by rw [rd_drop (by omega)]; exact List.mem_cons_self
      exact List.mem_of_mem_drop this)
    obtain ⟨a, b, cc, dd, e, f, g⟩ := hm
    unfold snowlineref02_cold.l0
    rw [if_pos (by omega), if_pos (by omega)]
    rw [rd_drop (show i < ls.length by omega)]
    simp only [cold]
    rw [wr (w + _) (by omega), wr ((i : Int) + 1) (by omega)]
    have := ih k (i + 1) (w + (rd_T48 ls (i : Int)).f2) (by omega) (by omega) (by omega) (by push_cast; omega)
    push_cast at this
    rw [this]
    congr 1
    omega
theorem rcold_eq {k : Nat} {ls : List Ly} (hr : Rights ls) (hl : ls.length ≤ 128) (hk : ls.length < k) : snowlineref02_cold.f k ls = some (cold ls) := by
  unfold snowlineref02_cold.f
  have := rcold_loop ls hr hl ls.length k 0 0 (by omega) hk (by omega) (by omega)
  simpa using this
theorem rcheck_loop (ls : List Ly) (hl : ls.length ≤ 64) : ∀ (d k i : Nat), i + d = ls.length → d + 65 < k → Rights (ls.take i) →
    snowlineref02_Check.l0 k (i : Int) ls = some (checkE ls) := by
  intro d
  induction d with
  | zero =>
    intro k i hi hk h
    obtain ⟨k, rfl⟩ : ∃ j, k = j + 1 := ⟨k - 1, by omega⟩
    rw [List.take_of_length_le (by omega)] at h
    unfold snowlineref02_Check.l0
    rw [if_neg (by omega), rwater_eq h (by omega) (by omega), rcold_eq h (by omega) (by omega)]
    simp only [Option.bind_some, checkE]
    by_cases hw : water ls > 65536
    · rw [if_pos hw, if_neg (fun hv : Valid ls => by have := hv.2.2.1; omega)]
    · rw [if_neg hw]
      by_cases hc : cold ls > 65536
      · rw [if_pos hc, if_neg (fun hv : Valid ls => by have := hv.2.2.2; omega)]
      · rw [if_neg hc, if_pos (show Valid ls from ⟨hl, h, by omega, by omega⟩)]
  | succ d ih =>
    intro k i hi hk h
    obtain ⟨k, rfl⟩ : ∃ j, k = j + 1 := ⟨k - 1, by omega⟩
    unfold snowlineref02_Check.l0
    rw [if_pos (by omega), if_pos (by omega), layer_eq]
    simp only [Option.bind_some, decide_eq_true_eq]
    have hd := rd_drop (show i < ls.length by omega)
    by_cases hr : Right (rd_T48 ls (i : Int))
    · rw [if_pos (by exact hr), wr ((i : Int) + 1) (by omega)]
      have := ih k (i + 1) (by omega) (by omega) (by
        intro x hx
        rw [List.take_add_one] at hx
        rcases List.mem_append.mp hx with hx | hx
        · exact h x hx
        · have e : ls[i]?.toList = [rd_T48 ls (i : Int)] := by
            simp [rd_T48, List.getD_eq_getElem?_getD, show i < ls.length by omega]
          rw [e] at hx
          rw [List.mem_singleton.mp hx]
          exact hr)
      push_cast at this
      exact this
    · rw [if_neg (by exact hr), checkE, if_neg]
      intro hv
      exact hr (hv.2.1 _ (by
        have : rd_T48 ls (i : Int) ∈ ls.drop i := by rw [hd]; exact List.mem_cons_self
        exact List.mem_of_mem_drop this))
theorem rcheck_eq {k : Nat} (hk : 130 ≤ k) (ls : List Ly) : snowlineref02_Check.f k ls = some (checkE ls) := by
  unfold snowlineref02_Check.f
  by_cases h : (ls.length : Int) > 64
  · rw [if_pos h, checkE, if_neg (by rintro ⟨h1, _⟩; omega)]
  · rw [if_neg h]
    exact rcheck_loop ls (by omega) ls.length k 0 (by omega) (by omega) (by intro x hx; simp at hx)
theorem rstep_eq {j : Nat} (k m cd : Int) : snowlineref02_CheckStep.f (j + 1) k m cd = some (stepE k m cd) := by
  unfold snowlineref02_CheckStep.f stepE
  simp only [snowlineref02_CheckStep.j0, within_eq, Option.bind_some, decide_eq_true_eq]
  by_cases h1 : 1 ≤ k ∧ k ≤ 6
  · rw [if_pos h1]
    by_cases h2 : 0 ≤ m ∧ m ≤ 65536
    · rw [decide_eq_true h2]
      by_cases hk : k = 1
      · rw [if_pos hk]
        by_cases h3 : 0 ≤ cd ∧ cd ≤ 65536
        · rw [if_neg (by simp), if_pos h3, if_pos (show StepOk k m cd from ⟨h1, h2, by rw [if_pos hk]; exact h3⟩)]
        · rw [if_neg (by simp), if_neg h3, if_neg (fun h : StepOk k m cd => h3 (by have := h.2.2; rw [if_pos hk] at this; exact this))]
      · rw [if_neg hk]
        by_cases h3 : cd = 0
        · rw [if_neg (by simp), if_pos h3, if_pos (show StepOk k m cd from ⟨h1, h2, by rw [if_neg hk]; omega⟩)]
        · rw [if_neg (by simp), if_neg h3, if_neg (fun h : StepOk k m cd => h3 (by have := h.2.2; rw [if_neg hk] at this; omega))]
    · rw [decide_eq_false h2, if_pos (by simp), if_neg (fun h : StepOk k m cd => h2 h.2.1)]
  · rw [if_neg h1, if_pos trivial, if_neg (fun h : StepOk k m cd => h1 h.1)]
theorem flow_one {L : List Ly} (h : Fits L) : flow L 1 = flow1 L := by
  have := flow_succ (m := 0) h (Int.le_refl 0)
  simp only [Int.zero_add, flow_zero, Int.add_zero] at this
  exact this
theorem rd_mid (pre : List Ly) (l : Ly) (post : List Ly) : rd_T48 (pre ++ l :: post) ((pre.length : Nat) : Int) = l := by
  show (pre ++ l :: post).getD ((pre.length : Nat) : Int).toNat z48 = l
  rw [Int.toNat_natCast]
  exact get_mid pre l post
theorem setn_mid (pre : List Ly) (l x : Ly) (post : List Ly) : (pre ++ l :: post).set ((pre.length : Nat) : Int).toNat x = pre ++ x :: post := by
  rw [Int.toNat_natCast]
  exact set_mid pre l x post
theorem flow_unit (m : Int) (r : List Ly × Int) : ∀ (L pre : List Ly) (ran n : Int), Fits L → water L ≤ 1099511627776 → cold L ≤ 1099511627776 → pre.length + L.length ≤ 1099511627776 → 0 ≤ ran → ran ≤ 1099511627776 → 0 ≤ n → n ≤ 1099511627776 →
    Ev (fun k => snowlineref02_flow.l0 k m (pre ++ (flow1 L).1) (ran + (flow1 L).2) (n + 1)) r → Ev (fun k => snowlineref02_flow.l1 k m (pre ++ L) ran n (pre.length : Int)) r := by
  intro L
  induction L with
  | nil =>
    intro pre ran n _ _ _ hp h0 h1 h2 h3 h
    simp only [List.length_nil] at hp
    refine Ev.step (g := fun k => snowlineref02_flow.j2 k m (pre ++ []) ran n (pre.length : Int)) (fun k => ?_) ?_
    · simp only [snowlineref02_flow.l1]
      rw [if_neg (by simp)]
    · refine Ev.step (fun k => ?_) h
      simp only [snowlineref02_flow.j2, flow1]
      rw [if_pos (by simp), wr _ (by omega), wr _ (by omega)]
  | cons l ls ih =>
    intro pre ran n hf hw hc hp h0 h1 h2 h3 h
    have w0 := water_nonneg hf.tail
    have c0 := cold_nonneg hf.tail
    have hlen : (pre.length : Int) < ((pre ++ l :: ls).length : Int) := by simp; omega
    simp only [water, cold, List.length_cons] at hw hc hp
    obtain ⟨a, b, c, d⟩ := hf.head
    have hh : ∀ x y, snowlineref02_hold.f l.f0 x y = some (l.f0 / 20) := fun x y => by
      unfold snowlineref02_hold.f
      rw [Int.tdiv_eq_ediv_of_nonneg a, wr _ (by omega)]
    have last : ¬ (l.f2 = 0 ∧ l.f0 / 20 ≤ l.f1) → Ev (fun k => snowlineref02_flow.j2 k m (pre ++ l :: ls) ran n (pre.length : Int)) r := by
      intro hn
      simp only [flow1, if_neg hn] at h
      by_cases h9 : 0 < l.f2
      · simp only [if_pos h9, Int.add_zero] at h
        refine Ev.step (fun k => ?_) h
        simp only [snowlineref02_flow.j2]
        rw [if_neg (by omega), if_pos (by omega), if_pos hlen]
        simp only [rd_mid, setn_mid, Option.bind_some]
        rw [if_pos h9, wr (l.f0 + 1) (by omega), wr (l.f2 - 1) (by omega), wr (n + 1) (by omega)]
      · simp only [if_neg h9, Int.add_zero] at h
        refine Ev.step (fun k => ?_) h
        simp only [snowlineref02_flow.j2]
        rw [if_neg (by omega), if_pos (by omega), if_pos hlen]
        simp only [rd_mid, setn_mid]
        rw [if_neg (by omega), wr (l.f1 + 1) (by omega), wr (n + 1) (by omega)]
    by_cases hfull : l.f2 = 0 ∧ l.f0 / 20 ≤ l.f1
    · simp only [flow1, if_pos hfull] at h
      have e : pre ++ l :: ls = (pre ++ [l]) ++ ls := by simp
      have e2 : (pre.length : Int) + 1 = ((pre ++ [l]).length : Nat) := by simp
      refine Ev.step (g := fun k => snowlineref02_flow.l1 k m ((pre ++ [l]) ++ ls) ran n (((pre ++ [l]).length : Nat) : Int)) (fun k => ?_) ?_
      · simp only [snowlineref02_flow.l1]
        rw [if_pos hlen, if_pos (by omega)]
        simp only [rd_mid, hh, Option.bind_some]
        rw [if_pos hfull.1, if_pos (show l.f1 ≥ l.f0 / 20 from hfull.2), wr _ (by omega), ← e2, e]
      · refine ih (pre ++ [l]) ran n hf.tail (by omega) (by omega) (by simp; omega) h0 h1 h2 h3 ?_
        simpa using h
    · refine Ev.step (fun k => ?_) (last hfull)
      simp only [snowlineref02_flow.l1]
      rw [if_pos hlen, if_pos (by omega)]
      simp only [rd_mid, hh, Option.bind_some]
      by_cases hz : l.f2 = 0
      · rw [if_pos hz, if_neg (by omega)]
      · rw [if_neg hz]
theorem flow1_more (L : List Ly) : water L ≤ water (flow1 L).1 := by
  induction L with
  | nil => simp [flow1]
  | cons l ls ih =>
    simp only [flow1]
    split
    · simp only [water]
      omega
    · split
      · simp only [water]; omega
      · simp only [water]; omega
theorem rflow_loop (m : Int) : ∀ (d : Nat) (L : List Ly) (ran n : Int), Fits L → water L + d ≤ 549755813888 → cold L ≤ 549755813888 → L.length ≤ 549755813888 → 0 ≤ ran → ran + d ≤ 549755813888 → 0 ≤ n → n + d = m → m ≤ 549755813888 →
    Ev (fun k => snowlineref02_flow.l0 k m L ran n) ((flow L d).1, ran + (flow L d).2) := by
  intro d
  induction d with
  | zero =>
    intro L ran n hf hw hc hl h0 h1 h2 h3 h4
    refine Ev.from 1 (fun k hk => ?_)
    obtain ⟨k, rfl⟩ : ∃ j, k = j + 1 := ⟨k - 1, by omega⟩
    simp only [snowlineref02_flow.l0]
    rw [if_neg (by omega)]
    simp [flow_zero]
  | succ d ih =>
    intro L ran n hf hw hc hl h0 h1 h2 h3 h4
    have hs := flow_succ (m := (d : Int)) hf (by omega)
    have e1 := flow_one hf
    have k1 := flow_fit (m := 1) hf (by omega)
    have k2 := flow_water L 1
    have k3 := flow_cold (m := 1) hf (by omega)
    have k4 := flow_length L 1
    rw [e1] at k1 k2 k3 k4
    have k5 := water_nonneg k1.1
    have k6 : (flow1 L).2 ≤ 1 := by
      have := k1.2
      have hw1 := flow1_more L
      omega
    have hi := ih (flow1 L).1 (ran + (flow1 L).2) (n + 1) k1.1 (by push_cast at hw h1 h3; omega) (by omega) (by omega) (by omega) (by push_cast at hw h1 h3; omega) (by omega) (by push_cast at hw h1 h3; omega) h4
    have e : ((flow L ((d + 1 : Nat) : Int)).1, ran + (flow L ((d + 1 : Nat) : Int)).2) = ((flow (flow1 L).1 d).1, ran + (flow1 L).2 + (flow (flow1 L).1 d).2) := by
      push_cast
      rw [hs]
      simp only [Int.add_assoc]
    rw [e]
    have hu := flow_unit m _ L [] ran n hf (by push_cast at hw h1 h3; omega) (by omega) (by simp; omega) h0 (by push_cast at hw h1 h3; omega) h2 (by omega) hi
    refine Ev.step (fun k => ?_) hu
    simp only [snowlineref02_flow.l0]
    rw [if_pos (by push_cast at h3; omega)]
    rfl
theorem rflow_eq {L : List Ly} {m : Int} (hf : Fits L) (hm : 0 ≤ m) (hw : water L + m ≤ 549755813888) (hc : cold L ≤ 549755813888) (hl : L.length ≤ 4096) : Ev (fun k => snowlineref02_flow.f k L m) (flow L m) := by
  have w0 := water_nonneg hf
  have := rflow_loop m m.toNat L 0 0 hf (by omega) hc (by omega) (by omega) (by omega) (by omega) (by omega) (by omega)
  rw [Int.toNat_of_nonneg hm] at this
  refine Ev.same (fun k => ?_) (by simpa using this)
  simp only [snowlineref02_flow.f, Option.bind_some, List.nil_append, List.length_nil]
  rw [if_pos (by omega)]
end Go.Proofs.YtpldcikmlpegpaaDoor.Plain
end
section
namespace Go.Proofs.YtpldcikmlpegpaaDoor.Plain
open Go.RowKit Go.Proofs.YtpldcikmlpegpaaDoor.PB Go.Proofs.YtpldcikmlpegpaaDoor.Col Go.Proofs.YtpldcikmlpegpaaDoorW.PrintWords Go.Proofs.YtpldcikmlpegpaaDoorW.PrintMore
theorem rd_zero (l : Ly) (ls : List Ly) : rd_T48 (l :: ls) 0 = l := rfl
theorem rlose_eq {l : Ly} {ls : List Ly} {more : Int} (hl : Live (l :: ls)) (hm : 0 ≤ more) (hm1 : more ≤ 1) (hw : water (l :: ls) ≤ 274877906944) (hc : cold (l :: ls) ≤ 274877906944) (hn : (l :: ls).length ≤ 4096) :
    Ev (fun k => snowlineref02_lose.f k (l :: ls) more) (lose1 l ls more) := by
  obtain ⟨⟨a, b, c, d⟩, h1⟩ := hl.head
  have w0 := water_nonneg hl.tail.fits
  have c0 := cold_nonneg hl.tail.fits
  simp only [water, cold, List.length_cons] at hw hc hn
  obtain ⟨r0, r1⟩ := lose1_rest (more := more) hl.head.1 hl.head.2 hm
  have hd : 0 ≤ l.f0 - 1 := by omega
  have hh : ∀ x y, snowlineref02_hold.f (l.f0 - 1) x y = some ((l.f0 - 1) / 20) := fun x y => by
    unfold snowlineref02_hold.f
    rw [Int.tdiv_eq_ediv_of_nonneg hd, wr _ (by omega)]
  have e1 : wrap64 (l.f0 - 1) = l.f0 - 1 := wr _ (by omega)
  have e2 : wrap64 (l.f1 + more) = l.f1 + more := wr _ (by omega)
  by_cases hz : l.f0 - 1 = 0
  · have hf := rflow_eq (m := l.f1 + more) hl.tail.fits (by omega) (by omega) (by omega) (by omega)
    have e3 : lose1 l ls more = flow ls (l.f1 + more) := by
      simp only [lose1]
      rw [if_pos hz, show l.f1 + more - min (l.f1 + more) ((l.f0 - 1) / 20) = l.f1 + more by omega]
    rw [e3]
    refine Ev.same (fun k => ?_) (Ev.bind (g := fun _ bt => some (bt.1, bt.2)) hf (Ev.pure fun _ => rfl))
    simp only [snowlineref02_lose.f, rd_zero, e1, e2, hh, Option.bind_some, List.drop_one, List.tail_cons, List.nil_append, List.length_nil, List.length_cons]
    rw [if_pos (by omega), if_pos (by omega), if_pos (by omega), if_pos hz]
  · have hf := rflow_eq (m := l.f1 + more - min (l.f1 + more) ((l.f0 - 1) / 20)) hl.tail.fits r0 (by omega) (by omega) (by omega)
    have e3 : lose1 l ls more = (⟨l.f0 - 1, min (l.f1 + more) ((l.f0 - 1) / 20), l.f2⟩ :: (flow ls (l.f1 + more - min (l.f1 + more) ((l.f0 - 1) / 20))).1, (flow ls (l.f1 + more - min (l.f1 + more) ((l.f0 - 1) / 20))).2) := by
      simp only [lose1]
      rw [if_neg hz]
    have hfl := flow_length ls (l.f1 + more - min (l.f1 + more) ((l.f0 - 1) / 20))
    rw [e3]
    refine Ev.same (fun k => ?_) (Ev.bind (g := fun _ bt => if ([(⟨l.f0 - 1, min (l.f1 + more) ((l.f0 - 1) / 20), l.f2⟩ : Ly)] : List Ly).length + bt.1.length < 5864062014805 then some ((⟨l.f0 - 1, min (l.f1 + more) ((l.f0 - 1) / 20), l.f2⟩ : Ly) :: bt.1, bt.2) else none) hf (Ev.pure fun _ => ?_))
    · simp only [snowlineref02_lose.f, rd_zero, e1, e2, hh, mn_min, Option.bind_some, List.drop_one, List.tail_cons, List.nil_append, List.length_nil, List.length_cons]
      rw [if_pos (by omega), if_pos (by omega), if_pos (by omega), if_neg hz, wr (l.f1 + more - _) (by omega)]
      rfl
    · rw [if_pos (by simp only [List.length_singleton]; omega)]
theorem rmelt_loop (m cd : Int) : ∀ (d : Nat) (L : List Ly) (ran t n : Int), Live L → water L ≤ 274877906944 → cold L ≤ 274877906944 → L.length ≤ 4096 → 0 ≤ ran → ran + water L ≤ 274877906944 → 0 ≤ n → n + d = m → m ≤ 65536 →
    Ev (fun k => snowlineref02_Do.l1 k ran t L n 3 m cd) ((times melt1 d L).1, ran + (times melt1 d L).2.1, t) := by
  have stop : ∀ (L : List Ly) (ran t n : Int), Ev (fun k => snowlineref02_Do.j3 k ran t L n false 3 m cd) (L, ran, t) := fun L ran t n => by
    refine Ev.from 1 (fun k hk => ?_)
    obtain ⟨k, rfl⟩ : ∃ j, k = j + 1 := ⟨k - 1, by omega⟩
    simp only [snowlineref02_Do.j3]
    rw [if_neg (by simp)]
  intro d
  induction d with
  | zero =>
    intro L ran t n _ _ _ _ _ _ _ hn _
    refine Ev.step (fun k => ?_) (by simpa [times] using stop L ran t n)
    simp only [snowlineref02_Do.l1]
    rw [if_neg (by omega)]
  | succ d ih =>
    intro L ran t n hl hw hc hlen h0 h1 h2 h3 h4
    cases L with
    | nil =>
      refine Ev.step (fun k => ?_) (by simpa [times] using stop [] ran t n)
      simp only [snowlineref02_Do.l1]
      rw [if_pos (by push_cast at h3; omega), if_neg (by simp)]
    | cons l ls =>
      have q1 := melt_round.live hl
      have q2 := melt_round.water hl
      have q3 := melt_round.cold hl
      have q4 := melt_round.len hl
      have q5 := water_nonneg q1.1.fits
      have hi := ih (melt1 (l :: ls)).1 (ran + (melt1 (l :: ls)).2) t (n + 1) q1.1 (by omega) (by omega) (by omega) (by omega) (by omega) (by omega) (by push_cast at h3; omega) h4
      have e : ((times melt1 (d + 1) (l :: ls)).1, ran + (times melt1 (d + 1) (l :: ls)).2.1, t) = ((times melt1 d (melt1 (l :: ls)).1).1, ran + (melt1 (l :: ls)).2 + (times melt1 d (melt1 (l :: ls)).1).2.1, t) := by
        simp only [times, Int.add_assoc]
      rw [e]
      refine Ev.step (g := fun k => snowlineref02_Do.j3 k ran t (l :: ls) n true 3 m cd) (fun k => ?_) ?_
      · simp only [snowlineref02_Do.l1]
        rw [if_pos (by push_cast at h3; omega), if_pos (by simp only [List.length_cons]; omega)]
        rfl
      · obtain ⟨⟨a, b, c, dd⟩, i1⟩ := hl.head
        have c0 := cold_nonneg hl.tail.fits
        have hc' := hc
        simp only [cold] at hc'
        by_cases h9 : 0 < l.f2
        · have em : melt1 (l :: ls) = (⟨l.f0, l.f1, l.f2 - 1⟩ :: ls, 0) := by simp only [melt1, if_pos h9]
          rw [em] at hi ⊢
          refine Ev.step (fun k => ?_) hi
          simp only [snowlineref02_Do.j3]
          rw [if_pos trivial, if_pos trivial, if_pos (by simp only [List.length_cons]; omega), if_pos (show (rd_T48 (l :: ls) 0).f2 > 0 from h9), wr (ran + 0) (by omega), wr (n + 1) (by omega)]
          show snowlineref02_Do.l1 k (ran + 0) t (⟨l.f0, l.f1, wrap64 (l.f2 - 1)⟩ :: ls) (n + 1) 3 m cd = _
          rw [wr (l.f2 - 1) (by omega)]
        · have em : melt1 (l :: ls) = lose1 l ls 1 := by simp only [melt1, if_neg h9]
          rw [em] at hi ⊢ q1 q2 q3 q4 q5
          have hlo := rlose_eq hl (show (0 : Int) ≤ 1 by omega) (by omega) hw hc hlen
          refine Ev.step (fun k => ?_) (Ev.bind (g := fun k bt => snowlineref02_Do.l1 k (wrap64 (ran + bt.2)) t bt.1 (wrap64 (n + 1)) 3 m cd) hlo ?_)
          · simp only [snowlineref02_Do.j3]
            rw [if_pos trivial, if_pos trivial, if_pos (by simp only [List.length_cons]; omega), if_neg (show ¬ (rd_T48 (l :: ls) 0).f2 > 0 from h9)]
          · rw [wr (ran + _) (by omega), wr (n + 1) (by omega)]
            exact hi
theorem rvanish_loop (kind m cd : Int) (hk : kind = 5 ∨ kind = 6) : ∀ (d : Nat) (L : List Ly) (ran t n : Int), Live L → water L ≤ 274877906944 → cold L ≤ 274877906944 → L.length ≤ 4096 → 0 ≤ ran → ran + water L ≤ 274877906944 → 0 ≤ n → n + d = m → m ≤ 65536 → 0 ≤ t → t ≤ n →
    Ev (fun k => snowlineref02_Do.l1 k ran t L n kind m cd) ((times vanish1 d L).1, ran + (times vanish1 d L).2.1, t + (times vanish1 d L).2.2) := by
  have stop : ∀ (L : List Ly) (ran t n : Int), Ev (fun k => snowlineref02_Do.j3 k ran t L n false kind m cd) (L, ran, t) := fun L ran t n => by
    refine Ev.from 1 (fun k hk => ?_)
    obtain ⟨k, rfl⟩ : ∃ j, k = j + 1 := ⟨k - 1, by omega⟩
    simp only [snowlineref02_Do.j3]
    rw [if_neg (by simp)]
  have hne : (kind != 1) = true := by rcases hk with rfl | rfl <;> rfl
  have hne3 : ¬ kind = 3 := by omega
  intro d
  induction d with
  | zero =>
    intro L ran t n _ _ _ _ _ _ _ hn _ _ _
    refine Ev.step (fun k => ?_) (by simpa [times] using stop L ran t n)
    simp only [snowlineref02_Do.l1]
    rw [if_neg (by omega)]
  | succ d ih =>
    intro L ran t n hl hw hc hlen h0 h1 h2 h3 h4 h5 h6
    cases L with
    | nil =>
      refine Ev.step (fun k => ?_) (by simpa [times] using stop [] ran t n)
      simp only [snowlineref02_Do.l1]
      rw [if_pos (by push_cast at h3; omega), if_neg (by simp)]
    | cons l ls =>
      have q1 := vanish_round.live hl
      have q2 := vanish_round.water hl
      have q3 := vanish_round.cold hl
      have q4 := vanish_round.len hl
      have q5 := water_nonneg q1.1.fits
      have hi := ih (vanish1 (l :: ls)).1 (ran + (vanish1 (l :: ls)).2) (t + 1) (n + 1) q1.1 (by omega) (by omega) (by omega) (by omega) (by omega) (by omega) (by push_cast at h3; omega) h4 (by omega) (by omega)
      have e : ((times vanish1 (d + 1) (l :: ls)).1, ran + (times vanish1 (d + 1) (l :: ls)).2.1, t + (times vanish1 (d + 1) (l :: ls)).2.2) = ((times vanish1 d (vanish1 (l :: ls)).1).1, ran + (vanish1 (l :: ls)).2 + (times vanish1 d (vanish1 (l :: ls)).1).2.1, t + 1 + (times vanish1 d (vanish1 (l :: ls)).1).2.2) := by
        simp only [times, Int.add_assoc]
      rw [e]
      refine Ev.step (g := fun k => snowlineref02_Do.j3 k ran t (l :: ls) n true kind m cd) (fun k => ?_) ?_
      · simp only [snowlineref02_Do.l1]
        rw [if_pos (by push_cast at h3; omega), if_pos (by simp only [List.length_cons]; omega), hne]
      · have em : vanish1 (l :: ls) = lose1 l ls 0 := rfl
        rw [em] at hi ⊢ q1 q2 q3 q4 q5
        have hlo := rlose_eq hl (show (0 : Int) ≤ 0 by omega) (by omega) hw hc hlen
        refine Ev.step (fun k => ?_) (Ev.bind (g := fun k bt => snowlineref02_Do.l1 k (wrap64 (ran + bt.2)) (wrap64 (t + 1)) bt.1 (wrap64 (n + 1)) kind m cd) hlo ?_)
        · simp only [snowlineref02_Do.j3]
          rw [if_pos trivial, if_neg hne3]
        · rw [wr (ran + _) (by omega), wr (n + 1) (by omega), wr (t + 1) (by omega)]
          exact hi
end Go.Proofs.YtpldcikmlpegpaaDoor.Plain
end
section
namespace Go.Proofs.YtpldcikmlpegpaaDoor.Plain
open Go.RowKit Go.Proofs.YtpldcikmlpegpaaDoor.PB Go.Proofs.YtpldcikmlpegpaaDoor.Col Go.Proofs.YtpldcikmlpegpaaDoorW.PrintWords Go.Proofs.YtpldcikmlpegpaaDoorW.PrintMore
theorem rfrost_loop : ∀ (ls pre : List Ly) (m : Int), Fits ls → 0 ≤ m → m ≤ 274877906944 → water ls ≤ 274877906944 → pre.length + ls.length ≤ 4096 →
    (∀ x xs, pre ++ (freezes ls m).1 = x :: xs → -274877906944 ≤ x.f2 ∧ x.f2 ≤ 274877906944) → 0 ≤ (freezes ls m).2 → (freezes ls m).2 ≤ 274877906944 →
    Ev (fun k => snowlineref02_Do.l0 k (pre ++ ls) m (pre.length : Int)) (chill (pre ++ (freezes ls m).1) (freezes ls m).2, 0, 0) := by
  intro ls
  induction ls with
  | nil =>
    intro pre m _ h0 h1 _ hp hx r0 r1
    simp only [freezes, List.append_nil] at hx r0 r1 ⊢
    refine Ev.from 1 (fun k hk => ?_)
    obtain ⟨k, rfl⟩ : ∃ j, k = j + 1 := ⟨k - 1, by omega⟩
    simp only [snowlineref02_Do.l0]
    rw [if_neg (by omega)]
    cases pre with
    | nil => rfl
    | cons x xs =>
      obtain ⟨b0, b1⟩ := hx x xs rfl
      rw [if_pos (by simp only [List.length_cons]; omega), if_pos (by simp only [List.length_cons]; omega)]
      show some ((⟨x.f0, x.f1, wrap64 (x.f2 + m)⟩ :: xs : List Ly), (0 : Int), (0 : Int)) = _
      rw [wr _ (by omega)]
      rfl
  | cons l ls ih =>
    intro pre m hf h0 h1 hw hp hx r0 r1
    have w0 := water_nonneg hf.tail
    simp only [water, List.length_cons] at hw hp
    obtain ⟨a, b, c, d⟩ := hf.head
    simp only [freezes] at hx r0 r1 ⊢
    have e2 : pre ++ (⟨l.f0 + min m l.f1, l.f1 - min m l.f1, l.f2⟩ : Ly) :: (freezes ls (m - min m l.f1)).1 = (pre ++ [⟨l.f0 + min m l.f1, l.f1 - min m l.f1, l.f2⟩]) ++ (freezes ls (m - min m l.f1)).1 := by simp
    rw [e2] at hx ⊢
    have hi := ih (pre ++ [⟨l.f0 + min m l.f1, l.f1 - min m l.f1, l.f2⟩]) (m - min m l.f1) hf.tail (by omega) (by omega) (by omega) (by simp; omega) hx r0 r1
    refine Ev.step (fun k => ?_) hi
    simp only [snowlineref02_Do.l0]
    rw [if_pos (by simp; omega), if_pos (by omega)]
    simp only [rd_mid, setn_mid, Option.bind_some, mn_min]
    rw [wr (l.f1 - min m l.f1) (by omega), wr (l.f0 + min m l.f1) (by omega), wr (m - min m l.f1) (by omega), wr ((pre.length : Int) + 1) (by omega)]
    have e3 : pre ++ (⟨l.f0 + min m l.f1, l.f1 - min m l.f1, l.f2⟩ : Ly) :: ls = (pre ++ [⟨l.f0 + min m l.f1, l.f1 - min m l.f1, l.f2⟩]) ++ ls := by simp
    have e4 : (pre.length : Int) + 1 = ((pre ++ [(⟨l.f0 + min m l.f1, l.f1 - min m l.f1, l.f2⟩ : Ly)]).length : Nat) := by simp
    rw [e3, e4]
def tookOf (L : List Ly) (k m : Int) : Int := if k = 5 ∨ k = 6 then (times vanish1 m.toNat L).2.2 else 0
theorem do_eq {L : List Ly} {k m cd : Int} (hv : Valid L) (hs : StepOk k m cd) : Ev (fun n => snowlineref02_Do.f n L k m cd) ((doStep L k m cd).1, (doStep L k m cd).2, tookOf L k m) := by
  obtain ⟨hk, hm, hc⟩ := hs
  obtain ⟨v0, _, v1, v2⟩ := id hv
  have hl := hv.live
  have hlen : L.length ≤ 4096 := by omega
  have w0 := water_nonneg hl.fits
  -- the loop's start, for what is neither snow that falls nor rain
  have start : ∀ {r : List Ly × Int × Int}, ¬ k = 2 → ¬ k = 4 → Ev (fun n => snowlineref02_Do.l1 n 0 0 L 0 k m cd) r → Ev (fun n => snowlineref02_Do.j0 n L 0 0 false k m cd) r := by
    intro r h2 h4 h
    refine Ev.step (fun n => ?_) h
    simp only [snowlineref02_Do.j0, Option.bind_some, List.nil_append, List.length_nil]
    rw [if_neg (by simp), if_neg h2, if_pos (by omega), if_neg h4]
  have start4 : ∀ {r : List Ly × Int × Int}, k = 4 → Ev (fun n => snowlineref02_Do.l0 n L m 0) r → Ev (fun n => snowlineref02_Do.j0 n L 0 0 false k m cd) r := by
    intro r h4 h
    refine Ev.step (fun n => ?_) h
    simp only [snowlineref02_Do.j0, Option.bind_some, List.nil_append, List.length_nil]
    rw [if_neg (by simp), if_neg (by omega), if_pos (by omega), if_pos h4]
  unfold tookOf
  by_cases k1 : k = 1
  · by_cases m0 : 0 < m
    · refine Ev.from 1 (fun n hn => ?_)
      obtain ⟨n, rfl⟩ : ∃ j, n = j + 1 := ⟨n - 1, by omega⟩
      unfold snowlineref02_Do.f doStep
      rw [if_pos k1, if_pos k1, if_pos m0, if_neg (by omega)]
      simp only [snowlineref02_Do.j0]
      rw [decide_eq_true (show m > 0 from m0), if_pos rfl]
      simp only [Option.bind_some, List.length_singleton]
      rw [if_pos (by omega)]
      rfl
    · have e : doStep L k m cd = (L, 0) := by unfold doStep; rw [if_pos k1, if_neg m0]
      rw [e, if_neg (by omega)]
      have : Ev (fun n => snowlineref02_Do.j0 n L 0 0 false k m cd) (L, 0, 0) := start (by omega) (by omega) (by
        refine Ev.from 2 (fun n hn => ?_)
        obtain ⟨n, rfl⟩ : ∃ j, n = j + 2 := ⟨n - 2, by omega⟩
        simp only [snowlineref02_Do.l1]
        rw [if_neg (by omega)]
        simp only [snowlineref02_Do.j3]
        rw [if_neg (by simp)])
      refine Ev.same (fun n => ?_) this
      unfold snowlineref02_Do.f
      rw [if_pos k1, decide_eq_false (show ¬ m > 0 from m0)]
  · have hf : ∀ n, snowlineref02_Do.f n L k m cd = snowlineref02_Do.j0 n L 0 0 false k m cd := fun n => by
      unfold snowlineref02_Do.f
      rw [if_neg k1]
    refine Ev.same hf ?_
    unfold doStep
    rw [if_neg k1]
    by_cases k2 : k = 2
    · rw [if_pos k2, if_neg (by omega)]
      refine Ev.step (fun n => ?_) (Ev.bind (g := fun _ bt => some (bt.1, bt.2, 0)) (rflow_eq hl.fits hm.1 (by omega) (by omega) hlen) (Ev.pure fun _ => rfl))
      simp only [snowlineref02_Do.j0]
      rw [if_neg (by simp), if_pos k2]
    · rw [if_neg k2]
      by_cases k3 : k = 3
      · refine start k2 (by omega) ?_
        rw [if_pos k3, if_neg (by omega), k3]
        have := rmelt_loop m cd m.toNat L 0 0 0 hl (by omega) (by omega) hlen (by omega) (by omega) (by omega) (by omega) hm.2
        simpa using this
      · rw [if_neg k3]
        by_cases k4 : k = 4
        · refine start4 k4 ?_
          rw [if_pos k4, if_neg (by omega)]
          obtain ⟨f1, f2, f3, f4, f5, f6⟩ := freezes_fit hl hm.1
          exact rfrost_loop L [] m hl.fits hm.1 (by omega) (by omega) (by simpa using hlen) (fun x xs hx => by
            have hx' : (freezes L m).1 = x :: xs := by simpa using hx
            rw [hx'] at f1 f5
            have c0 := cold_nonneg f1.tail.fits
            obtain ⟨_, _, _, d⟩ := f1.head.1
            simp only [cold] at f5
            omega) f2 (by omega)
        · refine start k2 k4 ?_
          rw [if_neg k4, if_pos (by omega)]
          have := rvanish_loop k m cd (by omega) m.toNat L 0 0 0 hl (by omega) (by omega) hlen (by omega) (by omega) (by omega) (by omega) hm.2 (by omega) (by omega)
          simpa using this
theorem rapply_eq (L : List Ly) (k m cd : Int) : Ev (fun n => snowlineref02_Apply.f n L k m cd) (applyP L k m cd) := by
  unfold applyP
  by_cases hv : Valid L
  · rw [if_pos hv]
    by_cases hs : StepOk k m cd
    · rw [if_pos hs]
      obtain ⟨n0, h0⟩ := do_eq hv hs
      refine Ev.from (max n0 200 + 1) (fun n hn => ?_)
      obtain ⟨n, rfl⟩ : ∃ j, n = j + 1 := ⟨n - 1, by omega⟩
      unfold snowlineref02_Apply.f
      rw [rcheck_eq (by omega), rstep_eq, checkE_pos hv]
      simp only [Option.bind_some, if_true, snowlineref02_Apply.j0]
      rw [if_pos (show stepE k m cd = 0 from if_pos hs), show snowlineref02_Do.f n L k m cd = _ from h0 n (by omega)]
      simp only [Option.bind_some]
      rw [rcheck_eq (by omega)]
      simp only [Option.bind_some]
      by_cases hw : Valid (doStep L k m cd).1
      · rw [checkE_pos hw, if_pos rfl, if_pos hw]
      · rw [checkE_neg hw, if_neg (by omega), if_neg hw]
    · rw [if_neg hs]
      refine Ev.from 200 (fun n hn => ?_)
      obtain ⟨n, rfl⟩ : ∃ j, n = j + 1 := ⟨n - 1, by omega⟩
      unfold snowlineref02_Apply.f
      rw [rcheck_eq (by omega), rstep_eq, checkE_pos hv]
      simp only [Option.bind_some, if_true, snowlineref02_Apply.j0]
      rw [show stepE k m cd = 21 from if_neg hs, if_neg (by omega)]
  · rw [if_neg hv]
    refine Ev.from 200 (fun n hn => ?_)
    obtain ⟨n, rfl⟩ : ∃ j, n = j + 1 := ⟨n - 1, by omega⟩
    unfold snowlineref02_Apply.f
    rw [rcheck_eq (by omega), checkE_neg hv]
    simp only [Option.bind_some, snowlineref02_Apply.j0]
    rw [if_neg (by omega), if_neg (by omega)]
end Go.Proofs.YtpldcikmlpegpaaDoor.Plain
end
section
namespace Go.Proofs.YtpldcikmlpegpaaDoor.Plain
open Go.RowKit Go.Proofs.YtpldcikmlpegpaaDoor.PB
set_option maxRecDepth 100000 in
theorem sane_eq200 : snowlinelaw02_sane.f 200 = some true := by kernel_rfl
end Go.Proofs.YtpldcikmlpegpaaDoor.Plain
end
section
namespace Go.Proofs.YtpldcikmlpegpaaDoor.Plain
open Go.RowKit Go.Proofs.YtpldcikmlpegpaaDoor.PB Go.Proofs.YtpldcikmlpegpaaDoor.Col Go.Proofs.YtpldcikmlpegpaaDoorW.PrintWords Go.Proofs.YtpldcikmlpegpaaDoorW.PrintMore
theorem sane_eq : ∀ (k : Nat), 200 ≤ k → snowlinelaw02_sane.f k = some true := by
  intro k hk
  induction k with
  | zero => omega
  | succ k ih =>
    by_cases h : k + 1 = 200
    · rw [h]; exact sane_eq200
    · exact snowlinelaw02_sane.mono k _ (ih (by omega))
def room (l : Ly) : Int := l.f2 - l.f1 + (l.f0 + l.f2) / 20
def ready : List Ly → Int
  | [] => 0
  | l :: ls => room l + ready ls
theorem room_bound {l : Ly} (h : Fit l) : 0 ≤ room l ∧ room l ≤ 2 * l.f2 + l.f0 := by
  obtain ⟨a, b, c, d⟩ := h
  unfold room
  omega
theorem ready_loop (ls : List Ly) (hr : Rights ls) (hl : ls.length ≤ 64) : ∀ (d k i : Nat) (s : Int), i + d = ls.length → d < k → 0 ≤ s → s ≤ 262144 * (i : Int) →
    pack_Ready.l0 k s ls (ls.length : Int) (i : Int) = some (s + ready (ls.drop i), 0) := by
  intro d
  induction d with
  | zero =>
    intro k i s hi hk _ _
    obtain ⟨k, rfl⟩ : ∃ j, k = j + 1 := ⟨k - 1, by omega⟩
    unfold pack_Ready.l0
    rw [if_neg (by omega), List.drop_eq_nil_of_le (by omega)]
    simp [ready]
  | succ d ih =>
    intro k i s hi hk h0 h1
    obtain ⟨k, rfl⟩ : ∃ j, k = j + 1 := ⟨k - 1, by omega⟩
    have hm : Right (rd_T48 ls (i : Int)) := hr _ (by
      have : rd_T48 ls (i : Int) ∈ ls.drop i := by rw [rd_drop (by omega)]; exact List.mem_cons_self
      exact List.mem_of_mem_drop this)
    have hrb := room_bound hm.live.1
    obtain ⟨a, b, cc, dd, e, f, g⟩ := hm
    unfold pack_Ready.l0
    rw [if_pos (by omega), if_pos (by omega), if_pos (by omega)]
    rw [rd_drop (show i < ls.length by omega)]
    simp only [ready, pack_hold.f, Option.bind_some]
    have h9 : 0 ≤ (rd_T48 ls (i : Int)).f0 + (rd_T48 ls (i : Int)).f2 := by omega
    rw [wr ((rd_T48 ls (i : Int)).f0 + _) (by omega), Int.tdiv_eq_ediv_of_nonneg h9, wr (((rd_T48 ls (i : Int)).f0 + _) / 20) (by omega), wr ((rd_T48 ls (i : Int)).f2 - _) (by omega), wr (s + _) (by omega), wr (s + _ + _) (by omega), wr ((i : Int) + 1) (by omega)]
    have := ih k (i + 1) (s + ((rd_T48 ls (i : Int)).f2 - (rd_T48 ls (i : Int)).f1) + ((rd_T48 ls (i : Int)).f0 + (rd_T48 ls (i : Int)).f2) / 20) (by omega) (by omega) (by unfold room at hrb; omega) (by unfold room at hrb; push_cast; omega)
    push_cast at this
    rw [this]
    unfold room
    congr 2
    omega
theorem ready_eq {k : Nat} (hk : 130 ≤ k) (L : List Ly) : pack_Ready.f k L = some (if Valid L then (ready L, 0) else (0, 20)) := by
  unfold pack_Ready.f
  rw [check_eq hk]
  simp only [Option.bind_some]
  by_cases hv : Valid L
  · rw [checkE_pos hv, if_pos rfl, if_pos hv]
    have := ready_loop L hv.2.1 hv.1 L.length k 0 0 (by omega) (by have := hv.1; omega) (by omega) (by omega)
    simpa using this
  · rw [checkE_neg hv, if_neg (by omega), if_neg hv]
end Go.Proofs.YtpldcikmlpegpaaDoor.Plain
end
section
namespace Go.Proofs.YtpldcikmlpegpaaDoor.Plain
open Go.RowKit Go.Proofs.YtpldcikmlpegpaaDoor.PB Go.Proofs.YtpldcikmlpegpaaDoorW.PrintWords Go.Proofs.YtpldcikmlpegpaaDoorW.PrintMore
theorem few_one (l : List Ly) : Ev (fun k => snowlinelaw02_few.f k [(⟨l⟩ : S24)]) (decide (l.length ≤ 70)) := by
  refine Ev.from 2 (fun k hk => ?_)
  obtain ⟨k, rfl⟩ : ∃ j, k = j + 2 := ⟨k - 2, by omega⟩
  unfold snowlinelaw02_few.f
  unfold snowlinelaw02_few.l0
  rw [if_pos (by simp), if_pos (by omega)]
  by_cases h : l.length ≤ 70
  · rw [if_neg (show ¬ ((rd_T24 [(⟨l⟩ : S24)] 0).f0.length : Int) > 70 by show ¬ (l.length : Int) > 70; omega)]
    unfold snowlinelaw02_few.l0
    rw [if_neg (by show ¬ (wrap64 (0 + 1)) < _; rw [wr _ (by omega)]; simp)]
    exact some_true h
  · rw [if_pos (show ((rd_T24 [(⟨l⟩ : S24)] 0).f0.length : Int) > 70 by show (l.length : Int) > 70; omega)]
    exact some_false h
theorem light_loop (l : List S26) (hl : l.length ≤ 9223372036854775806) : ∀ (d i : Nat), i + d = l.length → ∃ b, Ev (fun k => snowlinelaw02_light.l0 k l (i : Int)) b := by
  intro d
  induction d with
  | zero =>
    intro i hi
    refine ⟨true, Ev.from 1 (fun k hk => ?_)⟩
    obtain ⟨k, rfl⟩ : ∃ j, k = j + 1 := ⟨k - 1, by omega⟩
    unfold snowlinelaw02_light.l0
    rw [if_neg (by omega)]
  | succ d ih =>
    intro i hi
    obtain ⟨b, hb⟩ := ih (i + 1) (by omega)
    have e : wrap64 ((i : Int) + 1) = ((i + 1 : Nat) : Int) := by rw [wr _ (by omega)]; rfl
    by_cases h1 : (rd_T26 l (i : Int)).f0 = 1
    · refine ⟨b, Ev.step (fun k => ?_) hb⟩
      simp only [snowlinelaw02_light.l0]
      rw [if_pos (by omega), if_pos (by omega), if_pos h1, e]
    · by_cases h2 : (rd_T26 l (i : Int)).f1 > 3000
      · by_cases h3 : (rd_T26 l (i : Int)).f1 ≤ 65536
        · refine ⟨false, Ev.from 1 (fun k hk => ?_)⟩
          obtain ⟨k, rfl⟩ : ∃ j, k = j + 1 := ⟨k - 1, by omega⟩
          simp only [snowlinelaw02_light.l0]
          rw [if_pos (by omega), if_pos (by omega), if_neg h1, if_pos h2, if_pos h3]
        · refine ⟨b, Ev.step (fun k => ?_) hb⟩
          simp only [snowlinelaw02_light.l0]
          rw [if_pos (by omega), if_pos (by omega), if_neg h1, if_pos h2, if_neg h3, e]
      · refine ⟨b, Ev.step (fun k => ?_) hb⟩
        simp only [snowlinelaw02_light.l0]
        rw [if_pos (by omega), if_pos (by omega), if_neg h1, if_neg h2, e]
theorem light_ev (l : List S26) (hl : l.length ≤ 9223372036854775806) : ∃ b, Ev (fun k => snowlinelaw02_light.f k l) b :=
  light_loop l hl l.length 0 (by omega)
theorem sane_ev : Ev snowlinelaw02_sane.f true := Ev.from 200 (fun k hk => sane_eq k hk)
theorem applyP_valid (L : List Ly) (k m cd : Int) : (applyP L k m cd).1.length ≤ 64 := by
  unfold applyP
  split
  · split
    · split
      · rename_i h; exact h.1
      · simp
    · simp
  · simp
end Go.Proofs.YtpldcikmlpegpaaDoor.Plain
end
section
namespace Go.Proofs.YtpldcikmlpegpaaDoor.PurePackApplies
open Go.RowKit Go.Proofs.YtpldcikmlpegpaaDoor.PB Go.Proofs.YtpldcikmlpegpaaDoor.Open Go.Proofs.YtpldcikmlpegpaaDoor.Plain
theorem pure (l : List Ly) (k m cd : Int) (_ : ∀ x ∈ l, LyI x) (_ : i64 k) (_ : i64 m) (_ : i64 cd) : ∃ n, snowlinelaw02_PackApplies.f n l k m cd = some true := by
  have skip : Ev (fun n => snowlinelaw02_PackApplies.j0 n true l k m cd) true := Ev.from 1 (fun n hn => by
    obtain ⟨n, rfl⟩ : ∃ j, n = j + 1 := ⟨n - 1, by omega⟩
    rfl)
  have main : Ev (fun n => snowlinelaw02_PackApplies.j0 n false l k m cd) true := by
    refine Ev.step (g := fun n => (snowlineref02_Apply.f n l k m cd).bind fun b => (snowlineref02_Same.f n (applyP l k m cd).1 b.1).bind fun t => if t = true then (if (applyP l k m cd).2.1 = b.2.1 then some ((applyP l k m cd).2.2 == b.2.2) else some false) else some false) (fun n => ?_) ?_
    · simp only [snowlinelaw02_PackApplies.j0, apply_eq, Option.bind_some]
      rw [if_neg (by simp)]
    · refine Ev.bind (rapply_eq l k m cd) (Ev.bind (a := true) (Ev.from 100 (fun n hn => ?_)) (Ev.pure fun n => ?_))
      · rw [same_eq (by have := applyP_valid l k m cd; omega) (by have := applyP_valid l k m cd; omega), decide_eq_true rfl]
      · simp
  obtain ⟨b, hb⟩ := light_ev [(⟨k, m, cd⟩ : S26)] (by simp)
  refine Ev.some (f := fun n => snowlinelaw02_PackApplies.f n l k m cd) ?_
  refine Ev.bind sane_ev ?_
  simp only [if_true]
  refine Ev.bind (few_one l) ?_
  by_cases hf : l.length ≤ 70
  · simp only [decide_eq_true hf, if_true]
    refine Ev.bind hb ?_
    cases b
    · exact skip
    · exact main
  · simp only [decide_eq_false hf]
    exact skip
end Go.Proofs.YtpldcikmlpegpaaDoor.PurePackApplies
end
section
namespace Go.Proofs.YtpldcikmlpegpaaDoor.packApplies
open Go.ChangeShapes Go.WideShapes Go.ChangeAt Go.RowKit Go.Proofs.YtpldcikmlpegpaaDoor.Open Go.Proofs.YtpldcikmlpegpaaDoor.PB
set_option linter.unusedVariables false
set_option maxRecDepth 100000 in
theorem lifted (os : Os) (started : os.Started) (H : Type) (enc : TypeId × Value → H) :
    ReturnsInHanded {} Tryd.checked os 3 .any (fun w args => (Rows.packAppliesSpec.pre enc Tryd.prog Tryd.f3 [] false w args ∧ laidMetH Tryd.prog laid3 w) ∧ sizedMet enc Tryd.prog Tryd.f3 (OpenSpec.ofChange Rows.packAppliesSpec) false w args)
      (Rows.packAppliesSpec.post enc Tryd.prog Tryd.f3 false true false false) := by
  refine returnsInHanded_of_change_and (C := Tryd.checked) (X := fun w _ => laidMetH Tryd.prog laid3 w) (fun _ _ _ hh h => h.of_heap hh) own started (by kernel_rfl) Tryd.func3
    (ChangeSpec.witness_shaped (enc := enc) (C := Tryd.checked) (os := os) (X := fun w _ => laidMetH Tryd.prog laid3 w) false (World.doorLaid Tryd.prog 400 os) #[.agg #[.slice none 0 0], .agg #[.int .i64 0, .int .i64 0, .int .i64 0]] 8 rfl (World.shaped_of_RefB (by kernel_rfl) (by kernel_rfl)) (by kernel_rfl) (by kernel_rfl) (by kernel_rfl) (door_met os _)) ?_
  intro W base args ds gs before hval0 hW _ _ hL _
  have hval : ∀ (j : Nat) t v, Tryd.f3.params[j]? = some t → args[j]? = some v → Value.okWide Tryd.prog W .any base t v := hval0
  have hW' := hW
  obtain ⟨p, q, hA0, hV, rfl, hfz, hnd⟩ := hW
  have hA : DataW.TrodAll enc Tryd.prog W 0 (fun _ => true) true Tryd.f3.params.toList args.toList ds p := hA0
  rw [Tryd.params3] at hA hval
  obtain ⟨v0, vs0, d0, ds0, p0, q0, hargs, rfl, rfl, h0, r0⟩ := trodAll_cons hA
  obtain ⟨v1, vs1, d1, ds1, p1, q1, rfl, rfl, rfl, h1, r1⟩ := trodAll_cons r0
  obtain ⟨rfl, rfl, rfl⟩ := trodAll_nil r1
  obtain rfl : args = #[v0, v1] := by cases args; simp_all
  obtain ⟨rfl, rfl⟩ := trodVars_none hV
  have k0 := h0
  have lt0 : ∀ x ∈ p0, x.block < W.heap.size := by obtain ⟨m, hm⟩ := k0; exact DataW.trod_lt m _ _ _ hm
  obtain ⟨A0, c0, l0, rfl, hl0, hC0, hi0⟩ := open_pack (hval 0 24 v0 rfl rfl) h0
  have k1 := h1
  have lt1 : ∀ x ∈ p1, x.block < W.heap.size := by obtain ⟨m, hm⟩ := k1; exact DataW.trod_lt m _ _ _ hm
  obtain ⟨a1_0, a1_1, a1_2, rfl, w1_0, w1_1, w1_2⟩ := open_ints3 Tryd.underlying26 rfl rfl rfl (by kernel_rfl) (by kernel_rfl) (hval 1 26 v1 rfl rfl) h1
  clear hA0 hval0
  obtain ⟨k, h⟩ := PurePackApplies.pure l0 a1_0 a1_1 a1_2 hi0 w1_0 w1_1 w1_2
  refine (snowlinelaw02_PackApplies.calls k (fun k => k < W.heap.size) A0 c0 l0 a1_0 a1_1 a1_2 true W (share_of hC0 hl0) (glob_of hL) h).mono ?_
  rintro e W' ⟨rfl, bel⟩
  exact ⟨_, rfl, _, _, _, [], _, [], hW', trodAll_mk1 (shut_bool Tryd.underlying4 _), (trodAll_cons_mk (Below.trod laidOut (by kernel_rfl) (of_decide_eq_true (by kernel_rfl)) k0 bel lt0) (trodAll_cons_mk (Below.trod laidOut (by kernel_rfl) (of_decide_eq_true (by kernel_rfl)) k1 bel lt1) trodAll_mk0)), rfl, bel.frame _, fun h => by cases h⟩
theorem over : Rows.PackAppliesSaid :=
  OpenClaim.holds_of_wide 3 Tryd.f3 rfl rfl rfl rfl rfl rfl rfl ⟨rfl, rfl, rfl, rfl, rfl⟩ rfl rfl rfl rfl rfl (by kernel_rfl) Tryd.func3 (by kernel_rfl)
    (of_decide_eq_true (by kernel_rfl)) (by unfold Func.isWrapper; first | (rw [if_pos (by decide +kernel)]; kernel_rfl) | (rw [if_neg (by decide +kernel)]; exact ⟨rfl, rfl⟩))
    (fun os started H enc _ => lifted os started H enc)
theorem card_holds : Rows.PackAppliesCardSaid :=
  Claim7.holds_tied_plain_at .later [] [.data, .data, .data] true (true, "e4590a7662fcc404b2e76501190c3f3756a1f45f85c3a8ba53dbb8ae7a261990") false
    over (fun _ h => by cases h) (by kernel_rfl) (fun _ h => by cases h) packApplies_row_tie rfl ⟨rfl, rfl⟩ (by kernel_rfl) rfl
    (fun f fn hf hfn => by
      obtain rfl : f = 3 := Option.some.inj ((show Tryd.prog.funcNamed "snowline/snowlinelaw02.PackApplies" = some 3 by kernel_rfl).symm.trans hf) |>.symm
      obtain rfl : fn = Tryd.f3 := (Option.some.inj (Tryd.func3.symm.trans hfn)).symm
      exact ⟨by kernel_rfl, fun j t ht => by
        rw [Tryd.params3] at ht
        have hm : t ∈ [24, 26] := by simpa using Array.mem_of_getElem? ht
        have hall : ([24, 26].all fun u => !Tryd.prog.wantsStandIn u) = true := by kernel_rfl
        exact (show Tryd.prog.wantsStandIn t = false by simpa using List.all_eq_true.1 hall t hm)⟩)
    (by kernel_rfl)
end Go.Proofs.YtpldcikmlpegpaaDoor.packApplies
end
