/-
The tied card of the law PackReadies of snowlinelaw02 holds: it answers true for every pack and all two numbers, and changes nothing.
-/
import Derived.KernelRfl
import Derived.Test.YtpldcikmlpegpaaDoorTie
import Derived.Test.YtpldcikmlpegpaaDoorCards
import Derived.SevenTiedAt
import Derived.Test.YtpldcikmlpegpaaDoorPackReadiesA1
import Derived.Test.YtpldcikmlpegpaaDoorPackReadiesA2
import Derived.Test.YtpldcikmlpegpaaDoorPackReadiesA3
import Derived.Test.YtpldcikmlpegpaaDoorPackReadiesA4
import Derived.Test.YtpldcikmlpegpaaDoorPackReadiesA5
import Derived.Test.YtpldcikmlpegpaaDoorPackReadiesA6
import Derived.Test.YtpldcikmlpegpaaDoorPackReadiesA7
section
namespace Go.Proofs.YtpldcikmlpegpaaDoor.PB
open Go.RowKit Go.Proofs.YtpldcikmlpegpaaDoorW.PrintWords Go.Proofs.YtpldcikmlpegpaaDoorW.PrintLast Go.Proofs.YtpldcikmlpegpaaDoorW.PrintMore
attribute [local go_sem] max2_int min2_int max_two min_two max_three min_three max_four min_four   -- for this text's walks alone
set_option linter.unusedVariables false
set_option linter.unusedSimpArgs false
def snowlinelaw02_PackReadies.j0 : Nat → Int → Int → Bool → List (S48) → Option (Bool)
  | 0, _, _, _, _ => none
  | k + 1, x1, x2, x38, x754000 => if x38 = true then (some true) else ((pack_Ready.f k x754000).bind fun bt761 => ((snowlineref02_Ready.f k x754000).bind fun bt763 => ((pack_Yield.f x754000 x1).bind fun bt765 => ((snowlineref02_Yield.f k x754000 x1).bind fun bt767 => ((pack_Enough.f x754000 x2).bind fun bt769 => ((snowlineref02_Enough.f k x754000 x2).bind fun bt772 => (if bt761.1 = bt763.1 then (if bt761.2 = bt763.2 then (if bt765.1 = bt767.1 then (if bt765.2 = bt767.2 then (if bt769.1 = bt772.1 then (if (bt769.2.1 == bt772.2.1) = true then (some (bt769.2.2 == bt772.2.2)) else (some false)) else (some false)) else (some false)) else (some false)) else (some false)) else (some false))))))))
def snowlinelaw02_PackReadies.f (k : Nat) (l0_0 : List (S48)) (a1 : Int) (a2 : Int) : Option (Bool) := (snowlinelaw02_sane.f k).bind fun t754 => (if t754 = true then ((snowlinelaw02_few.f k (([(⟨l0_0⟩ : S24)] : List (S24)))).bind fun t758 => (if t758 = true then (if a1 > 3000 then (if a1 ≤ 65536 then (snowlinelaw02_PackReadies.j0 k a1 a2 true l0_0) else ((snowlinelaw02_big.f k l0_0).bind fun t759 => (snowlinelaw02_PackReadies.j0 k a1 a2 t759 l0_0))) else ((snowlinelaw02_big.f k l0_0).bind fun t760 => (snowlinelaw02_PackReadies.j0 k a1 a2 t760 l0_0))) else (snowlinelaw02_PackReadies.j0 k a1 a2 true l0_0))) else (some false))
set_option maxHeartbeats 8000000 in
set_option maxRecDepth 100000 in
theorem snowlinelaw02_PackReadies.calls (k : Nat) (P0_0_ : Nat → Prop) (A0_0 : Option Addr) (c0_0 : Nat) (l0_0 : List (S48)) (a1 : Int) (a2 : Int) (r : Bool) (w : World) (hs0_0 : Kd.V k48 48 w w.heap.size (fun k_ => P0_0_ k_) (.slice A0_0 l0_0.length c0_0) l0_0) (hG : Glob w) (h : snowlinelaw02_PackReadies.f k l0_0 a1 a2 = some r) :
    Calls Tryd.prog 15 #[.agg #[.slice A0_0 l0_0.length c0_0], .int .i64 a1, .int .i64 a2] w fun e w' => e = .returned (.bool r) ∧ Below w.heap.size w w' := by
  have hu24 := Tryd.underlying24
  have HO0_0 := Aside0.mk (show Kd.V k48 48 w w.heap.size (fun k_ => (P0_0_ k_ ∨ w.heap.size ≤ k_)) (.slice A0_0 l0_0.length c0_0) l0_0 from Kd.V_mono hs0_0 (fun k_ hk => .inl hk))
  have HB := Aside0.mk (Below.refl w.heap.size w)
  have HGl := Aside0.mk hG
  clear hG
  have H : ((snowlinelaw02_sane.f k).bind fun t754 => (if t754 = true then ((snowlinelaw02_few.f k (([(⟨l0_0⟩ : S24)] : List (S24)))).bind fun t758 => (if t758 = true then (if a1 > 3000 then (if a1 ≤ 65536 then (snowlinelaw02_PackReadies.j0 k a1 a2 true l0_0) else ((snowlinelaw02_big.f k l0_0).bind fun t759 => (snowlinelaw02_PackReadies.j0 k a1 a2 t759 l0_0))) else ((snowlinelaw02_big.f k l0_0).bind fun t760 => (snowlinelaw02_PackReadies.j0 k a1 a2 t760 l0_0))) else (snowlinelaw02_PackReadies.j0 k a1 a2 true l0_0))) else (some false))) = some r := h
  clear h
  replace H := Option.bind_eq_some_iff.mp H
  obtain ⟨t754, A40, H⟩ := H
  replace H : (if t754 = true then ((snowlinelaw02_few.f k (([(⟨l0_0⟩ : S24)] : List (S24)))).bind fun t758 => (if t758 = true then (if a1 > 3000 then (if a1 ≤ 65536 then (snowlinelaw02_PackReadies.j0 k a1 a2 true l0_0) else ((snowlinelaw02_big.f k l0_0).bind fun t759 => (snowlinelaw02_PackReadies.j0 k a1 a2 t759 l0_0))) else ((snowlinelaw02_big.f k l0_0).bind fun t760 => (snowlinelaw02_PackReadies.j0 k a1 a2 t760 l0_0))) else (snowlinelaw02_PackReadies.j0 k a1 a2 true l0_0))) else (some false)) = some r := H
  have A4 := Aside0.mk A40
  clear A40
  by_cases c5 : t754 = true
  · subst c5
    have H1 : ((snowlinelaw02_few.f k (([(⟨l0_0⟩ : S24)] : List (S24)))).bind fun t758 => (if t758 = true then (if a1 > 3000 then (if a1 ≤ 65536 then (snowlinelaw02_PackReadies.j0 k a1 a2 true l0_0) else ((snowlinelaw02_big.f k l0_0).bind fun t759 => (snowlinelaw02_PackReadies.j0 k a1 a2 t759 l0_0))) else ((snowlinelaw02_big.f k l0_0).bind fun t760 => (snowlinelaw02_PackReadies.j0 k a1 a2 t760 l0_0))) else (snowlinelaw02_PackReadies.j0 k a1 a2 true l0_0))) = some r := by rw [if_pos rfl] at H; exact H
    clear H
    have H := H1
    clear H1
    have HC6 := Aside0.mk H
    clear H
    go_enter Tryd.func15, Tryd.ntmps15
    go_upto_region 3 with (first | ((with_reducible refine gate_dst (N := 3) rfl ?_); refine box_event ?hg (N := 3) ?hd (cs := #[.slice A0_0 l0_0.length c0_0]) (t := 24) ?hr ?_; (case hd => rfl); (case hg => rfl); (case hr => first | (go_simp; done) | (go_simp; rfl)); intro gb753 hg w7 hbox hb; have n0_ := Aside0.mk (Kd.V_below (Kd.V_elderB (by (with_reducible repeat (first | apply Kd.V_alloc | apply Kd.V_drewN | apply Kd.V_drew)); exact HO0_0.out) gb753 (Nat.le_of_eq hg.symm)) hb); have n1_ := Aside0.mk (below_step (by repeat (first | (with_reducible first | exact HB.out | apply below_alloc | apply pw_below_drewN | apply below_drew1) | exact HB.out)) hb); have n2_ := Aside0.mk (hbox); have n3_ := Aside0.mk ((by rw [hg]; exact (below_size (by repeat (first | (with_reducible first | exact HB.out | apply below_alloc | apply pw_below_drewN | apply below_drew1) | exact HB.out))) : w.heap.size ≤ gb753)); have n4_ := Aside0.mk ((by rw [hg]; exact (below_size (by repeat (first | (with_reducible first | exact HB.out | apply below_alloc | apply pw_below_drewN | apply below_drew1) | exact HB.out))) : w.heap.size ≤ gb753)); clear HO0_0; clear HB; have HO0_0 := n0_; have HB := n1_; have BK753 := n2_; have GW753 := n3_; have GE753 := n4_; clear n0_ n1_ n2_ n3_ n4_; clear hb hbox hg) | ((with_reducible refine gate_callee (f := 18) rfl ?_); refine goesL_ (some 21) rfl rfl Tryd.func18 (by kernel_rfl) rfl #[] rfl (by (try simp only [List.map_toArray, List.map_cons, List.map_nil]); first | done | rfl | (simp only [List.length_drop, List.length_take]; rfl)) ?_; (with_reducible refine (snowlinelaw02_sane.calls k  true _ ?hgl_ A4.out).mono ?_); (case hgl_ => exact HGl.out.below (by repeat (first | (with_reducible first | exact HB.out | apply below_alloc | apply pw_below_drewN | apply below_drew1 | refine below_set ?_ GE753.out) | exact HB.out)) (Nat.le_refl _)); rintro e w8 ⟨rfl, hb⟩; refine ⟨_, rfl, ?_⟩; have n0_ := Aside0.mk (Kd.V_below (by (with_reducible repeat (first | apply Kd.V_alloc | apply Kd.V_drewN | apply Kd.V_drew)); exact HO0_0.out) hb); have n1_ := Aside0.mk (blk_below (g := gb753) (o := .cells #[.slice A0_0 l0_0.length c0_0] 24 (0, 0)) (by (with_reducible repeat (first | refine blk_drewN ?_ _ | refine blk_drew ?_ | refine blk_alloc ?_ _)); exact BK753.out) hb); have n2_ := Aside0.mk (below_step (by repeat (first | (with_reducible first | exact HB.out | apply below_alloc | apply pw_below_drewN | apply below_drew1 | refine below_set ?_ GE753.out) | exact HB.out)) hb); clear HO0_0; clear BK753; clear HB; have HO0_0 := n0_; have BK753 := n1_; have HB := n2_; clear n0_ n1_ n2_; (try clear hb); (try clear hb2); (try clear hk); (try clear hi)))
    (try simp only [Act.put, List.setIfInBounds_toArray, List.set_cons_zero, List.set_cons_succ])
    go_cut [38] (fun v38 wc => ∃ (kq : Nat) (x38_5 : Bool), v38 = .bool x38_5 ∧ Aside0 (snowlinelaw02_PackReadies.j0 kq a1 a2 x38_5 l0_0 = some r) ∧ Aside0 (kq ≤ k) ∧ Aside0 (Kd.V k48 48 wc w.heap.size (fun k_ => (P0_0_ k_ ∨ w.heap.size ≤ k_) ∧ k_ ≠ gb753) (.slice A0_0 l0_0.length c0_0) l0_0) ∧ Aside0 (wc.heap[gb753]? = some (.cells #[(.slice A0_0 l0_0.length c0_0)] 24 (0, 0))) ∧ Aside0 (Below w.heap.size w wc))
    case first =>
      have H := HC6.out
      clear HC6
      obtain ⟨y755, hy755⟩ : ∃ y_ : List (S24), y_ = (([(⟨l0_0⟩ : S24)] : List (S24))) := ⟨_, rfl⟩
      replace H : ((snowlinelaw02_few.f k y755).bind fun t758 => (if t758 = true then (if a1 > 3000 then (if a1 ≤ 65536 then (snowlinelaw02_PackReadies.j0 k a1 a2 true l0_0) else ((snowlinelaw02_big.f k l0_0).bind fun t759 => (snowlinelaw02_PackReadies.j0 k a1 a2 t759 l0_0))) else ((snowlinelaw02_big.f k l0_0).bind fun t760 => (snowlinelaw02_PackReadies.j0 k a1 a2 t760 l0_0))) else (snowlinelaw02_PackReadies.j0 k a1 a2 true l0_0))) = some r := by first | (rw [hy755]; with_reducible exact H) | (have H2_ := (Option.bind_some _ _).symm.trans H; rw [hy755]; with_reducible exact H2_) | (have H2_ := (Option.bind_some _ _).symm.trans H; with_reducible exact H2_) | with_reducible exact H | (rw [hy755]; exact H) | exact H
      have Ny755 := Aside0.mk hy755
      clear hy755
      replace H := Option.bind_eq_some_iff.mp H
      obtain ⟨t758, A90, H⟩ := H
      replace H : (if t758 = true then (if a1 > 3000 then (if a1 ≤ 65536 then (snowlinelaw02_PackReadies.j0 k a1 a2 true l0_0) else ((snowlinelaw02_big.f k l0_0).bind fun t759 => (snowlinelaw02_PackReadies.j0 k a1 a2 t759 l0_0))) else ((snowlinelaw02_big.f k l0_0).bind fun t760 => (snowlinelaw02_PackReadies.j0 k a1 a2 t760 l0_0))) else (snowlinelaw02_PackReadies.j0 k a1 a2 true l0_0)) = some r := H
      have A9 := Aside0.mk A90
      clear A90
      by_cases c10 : t758 = true
      · subst c10
        have H1 : (if a1 > 3000 then (if a1 ≤ 65536 then (snowlinelaw02_PackReadies.j0 k a1 a2 true l0_0) else ((snowlinelaw02_big.f k l0_0).bind fun t759 => (snowlinelaw02_PackReadies.j0 k a1 a2 t759 l0_0))) else ((snowlinelaw02_big.f k l0_0).bind fun t760 => (snowlinelaw02_PackReadies.j0 k a1 a2 t760 l0_0))) = some r := by rw [if_pos rfl] at H; exact H
        clear H
        have H := H1
        clear H1
        by_cases c11 : a1 > 3000
        · rw [if_pos c11] at H
          have c11b0 : decide (3000 < a1) = true := decide_eq_true c11
          clear c11
          (first | rw [c11b0] | (simp only [i64_w, i32_w]; rw [c11b0]) | skip)
          by_cases c12 : a1 ≤ 65536
          · rw [if_pos c12] at H
            have c12b0 : decide (a1 ≤ 65536) = true := decide_eq_true c12
            clear c12
            have H' := Aside0.mk H
            clear H
            have hcz13_0 : w8.cell? ⟨gb753, 0, none⟩ = some (.slice A0_0 l0_0.length c0_0) := (blk_cell BK753.out 0).trans rfl
            have hfz13_0 := blk_frozen BK753.out 0
            go_wp2_with (first | ((with_reducible refine gate_dst (N := 24) rfl ?_); refine Kd.N_lit k24 _ 24 ?hg (N' := 24) ?hd (xs := ([(⟨l0_0⟩ : S24)] : List (S24))) (inner := [.slice A0_0 l0_0.length c0_0]) (ok := (fun k_ => (P0_0_ k_ ∨ w.heap.size ≤ k_) ∧ k_ ≠ gb753)) (okp := (fun k_ => (P0_0_ k_ ∨ w.heap.size ≤ k_) ∧ k_ ≠ gb753)) ?hr ?hp (fun _ hk => hk) ((show ∀ k_, w8.heap.size ≤ k_ → (fun k_ => (P0_0_ k_ ∨ w.heap.size ≤ k_) ∧ k_ ≠ gb753) k_ from fun k_ hk => ⟨(.inr (Nat.le_trans (below_size (by repeat (first | (with_reducible first | exact HB.out | apply below_alloc | apply pw_below_drewN | apply below_drew1 | refine below_set ?_ GE753.out) | exact HB.out))) hk)), Kd.freshB (g := gb753) (o := .cells #[.slice A0_0 l0_0.length c0_0] 24 (0, 0)) (by (with_reducible repeat (first | refine blk_drewN ?_ _ | refine blk_drew ?_ | refine blk_alloc ?_ _)); exact BK753.out) k_ hk⟩) _ (Nat.le_refl _)) (Below.refl _ _) (Nat.le_refl _) (by simp) ?_; (case hd => rfl); (case hg => rfl); (case hr => first | (go_simp; done) | (go_simp; rfl)); (case hp => exact (Reps.one (show Kd.FK k24 _ _ (⟨l0_0⟩ : S24) [.slice A0_0 l0_0.length c0_0] from (k24_mkF _ _ (⟨l0_0⟩ : S24) (Kd.V_reads' (Kd.V_mono (ok' := (fun k_ => (P0_0_ k_ ∨ w.heap.size ≤ k_) ∧ k_ ≠ gb753)) (HO0_0.out) (fun k_ hk => ⟨hk.1, hk.2⟩))).2.1 (Kd.V_F (Kd.V_mono (ok' := (fun k_ => (P0_0_ k_ ∨ w.heap.size ≤ k_) ∧ k_ ≠ gb753)) (HO0_0.out) (fun k_ hk => ⟨hk.1, hk.2⟩))))) (Reps.none _ _))); intro v756 w14 ho15 hb hg_ hnew_; clear hg_ hnew_; (first | rw [← Ny755.out] at ho15 | (simp only [Int.reduceToNat] at ho15; rw [← Ny755.out] at ho15)); have n0_ := Aside0.mk (Kd.V_elder' (by (with_reducible repeat (first | apply Kd.V_alloc | apply Kd.V_drewN | apply Kd.V_drew)); exact HO0_0.out) (Kd.N_base ho15) hb); have n1_ := Aside0.mk (Kd.N_lower ho15 (below_size (by repeat (first | (with_reducible first | exact HB.out | apply below_alloc | apply pw_below_drewN | apply below_drew1 | refine below_set ?_ GE753.out) | exact HB.out)))); have n2_ := Aside0.mk (blk_below (g := gb753) (o := .cells #[.slice A0_0 l0_0.length c0_0] 24 (0, 0)) (by (with_reducible repeat (first | refine blk_drewN ?_ _ | refine blk_drew ?_ | refine blk_alloc ?_ _)); exact BK753.out) hb); have n3_ := Aside0.mk (below_step (by repeat (first | (with_reducible first | exact HB.out | apply below_alloc | apply pw_below_drewN | apply below_drew1 | refine below_set ?_ GE753.out) | exact HB.out)) hb); clear HO0_0; clear BK753; clear HB; have HO0_0 := n0_; have HO757 := n1_; have BK753 := n2_; have HB := n3_; clear n0_ n1_ n2_ n3_; clear hb ho15; obtain ⟨Ao16, co16, eo16⟩ := Kd.N_slice HO757.out; subst eo16) | ((with_reducible refine gate_callee (f := 19) rfl ?_); refine goesL_ (some 25) rfl rfl Tryd.func19 (by kernel_rfl) rfl #[.slice Ao16 y755.length co16] rfl (by (try simp only [List.map_toArray, List.map_cons, List.map_nil]); first | done | rfl | (simp only [List.length_drop, List.length_take]; rfl)) ?_; (with_reducible refine (snowlinelaw02_few.calls k _ _ y755 true _ ?side1 ?side2 A9.out).mono ?_); (case side1 => repeat (first | exact (Kd.N_reads' HO757.out).2.2 | (with_reducible refine Kd.C_alloc ?_ _) | (with_reducible refine Kd.C_drewN ?_ _) | (with_reducible refine Kd.C_drew ?_))); (case side2 => exact (Kd.N_reads' HO757.out).2.1); rintro e w' ⟨rfl, ⟨nd, rfl⟩⟩; refine ⟨_, rfl, ?_⟩))
            go_meet
            case rel => exact ⟨_, (true), (by first | rfl | (simp; done) | (simp [*]; done)), H', ⟨by first | omega | exact Nat.le_refl _⟩, ⟨by (with_reducible repeat (first | apply Kd.V_alloc | apply Kd.V_drewN | apply Kd.V_drew)); exact Kd.V_mono HO0_0.out (fun _ hk => ⟨hk.1.1, hk.1.2⟩)⟩, ⟨by (with_reducible repeat (first | refine blk_drewN ?_ _ | refine blk_drew ?_ | refine blk_alloc ?_ _)); exact BK753.out⟩, ⟨by repeat (first | (with_reducible first | exact HB.out | apply below_alloc | apply pw_below_drewN | apply below_drew1 | refine below_set ?_ GE753.out) | exact HB.out)⟩⟩
          · rw [if_neg c12] at H
            have c12b0 : decide (a1 ≤ 65536) = false := decide_eq_false c12
            clear c12
            replace H := Option.bind_eq_some_iff.mp H
            obtain ⟨t759, A170, H⟩ := H
            replace H : (snowlinelaw02_PackReadies.j0 k a1 a2 t759 l0_0) = some r := H
            have A17 := Aside0.mk A170
            clear A170
            have H' := Aside0.mk H
            clear H
            have hcz18_0 : w8.cell? ⟨gb753, 0, none⟩ = some (.slice A0_0 l0_0.length c0_0) := (blk_cell BK753.out 0).trans rfl
            have hfz18_0 := blk_frozen BK753.out 0
            go_wp2_with (first | ((with_reducible refine gate_dst (N := 24) rfl ?_); refine Kd.N_lit k24 _ 24 ?hg (N' := 24) ?hd (xs := ([(⟨l0_0⟩ : S24)] : List (S24))) (inner := [.slice A0_0 l0_0.length c0_0]) (ok := (fun k_ => (P0_0_ k_ ∨ w.heap.size ≤ k_) ∧ k_ ≠ gb753)) (okp := (fun k_ => (P0_0_ k_ ∨ w.heap.size ≤ k_) ∧ k_ ≠ gb753)) ?hr ?hp (fun _ hk => hk) ((show ∀ k_, w8.heap.size ≤ k_ → (fun k_ => (P0_0_ k_ ∨ w.heap.size ≤ k_) ∧ k_ ≠ gb753) k_ from fun k_ hk => ⟨(.inr (Nat.le_trans (below_size (by repeat (first | (with_reducible first | exact HB.out | apply below_alloc | apply pw_below_drewN | apply below_drew1 | refine below_set ?_ GE753.out) | exact HB.out))) hk)), Kd.freshB (g := gb753) (o := .cells #[.slice A0_0 l0_0.length c0_0] 24 (0, 0)) (by (with_reducible repeat (first | refine blk_drewN ?_ _ | refine blk_drew ?_ | refine blk_alloc ?_ _)); exact BK753.out) k_ hk⟩) _ (Nat.le_refl _)) (Below.refl _ _) (Nat.le_refl _) (by simp) ?_; (case hd => rfl); (case hg => rfl); (case hr => first | (go_simp; done) | (go_simp; rfl)); (case hp => exact (Reps.one (show Kd.FK k24 _ _ (⟨l0_0⟩ : S24) [.slice A0_0 l0_0.length c0_0] from (k24_mkF _ _ (⟨l0_0⟩ : S24) (Kd.V_reads' (Kd.V_mono (ok' := (fun k_ => (P0_0_ k_ ∨ w.heap.size ≤ k_) ∧ k_ ≠ gb753)) (HO0_0.out) (fun k_ hk => ⟨hk.1, hk.2⟩))).2.1 (Kd.V_F (Kd.V_mono (ok' := (fun k_ => (P0_0_ k_ ∨ w.heap.size ≤ k_) ∧ k_ ≠ gb753)) (HO0_0.out) (fun k_ hk => ⟨hk.1, hk.2⟩))))) (Reps.none _ _))); intro v756 w19 ho20 hb hg_ hnew_; clear hg_ hnew_; (first | rw [← Ny755.out] at ho20 | (simp only [Int.reduceToNat] at ho20; rw [← Ny755.out] at ho20)); have n0_ := Aside0.mk (Kd.V_elder' (by (with_reducible repeat (first | apply Kd.V_alloc | apply Kd.V_drewN | apply Kd.V_drew)); exact HO0_0.out) (Kd.N_base ho20) hb); have n1_ := Aside0.mk (Kd.N_lower ho20 (below_size (by repeat (first | (with_reducible first | exact HB.out | apply below_alloc | apply pw_below_drewN | apply below_drew1 | refine below_set ?_ GE753.out) | exact HB.out)))); have n2_ := Aside0.mk (blk_below (g := gb753) (o := .cells #[.slice A0_0 l0_0.length c0_0] 24 (0, 0)) (by (with_reducible repeat (first | refine blk_drewN ?_ _ | refine blk_drew ?_ | refine blk_alloc ?_ _)); exact BK753.out) hb); have n3_ := Aside0.mk (below_step (by repeat (first | (with_reducible first | exact HB.out | apply below_alloc | apply pw_below_drewN | apply below_drew1 | refine below_set ?_ GE753.out) | exact HB.out)) hb); clear HO0_0; clear BK753; clear HB; have HO0_0 := n0_; have HO757 := n1_; have BK753 := n2_; have HB := n3_; clear n0_ n1_ n2_ n3_; clear hb ho20; obtain ⟨Ao21, co21, eo21⟩ := Kd.N_slice HO757.out; subst eo21) | ((with_reducible refine gate_callee (f := 19) rfl ?_); refine goesL_ (some 25) rfl rfl Tryd.func19 (by kernel_rfl) rfl #[.slice Ao21 y755.length co21] rfl (by (try simp only [List.map_toArray, List.map_cons, List.map_nil]); first | done | rfl | (simp only [List.length_drop, List.length_take]; rfl)) ?_; (with_reducible refine (snowlinelaw02_few.calls k _ _ y755 true _ ?side1 ?side2 A9.out).mono ?_); (case side1 => repeat (first | exact (Kd.N_reads' HO757.out).2.2 | (with_reducible refine Kd.C_alloc ?_ _) | (with_reducible refine Kd.C_drewN ?_ _) | (with_reducible refine Kd.C_drew ?_))); (case side2 => exact (Kd.N_reads' HO757.out).2.1); rintro e w' ⟨rfl, ⟨nd, rfl⟩⟩; refine ⟨_, rfl, ?_⟩; have hcz22_0 : w19.cell? ⟨gb753, 0, none⟩ = some (.slice A0_0 l0_0.length c0_0) := (blk_cell BK753.out 0).trans rfl; have hfz22_0 := blk_frozen BK753.out 0) | (go_at_call 51; (with_reducible refine (snowlinelaw02_big.calls k _ _ l0_0 t759 _ ?side1 ?side2 A17.out).mono ?_); (case side1 => repeat (first | exact (Kd.V_reads' HO0_0.out).2.2 | (with_reducible refine Kd.C_alloc ?_ _) | (with_reducible refine Kd.C_drewN ?_ _) | (with_reducible refine Kd.C_drew ?_))); (case side2 => exact (Kd.V_reads' HO0_0.out).2.1); rintro e w23 ⟨rfl, hb⟩; have n0_ := Aside0.mk (Kd.V_below (by (with_reducible repeat (first | apply Kd.V_alloc | apply Kd.V_drewN | apply Kd.V_drew)); exact HO0_0.out) hb); have n1_ := Aside0.mk (Kd.N_below (by (with_reducible repeat (first | apply Kd.N_alloc | apply Kd.N_drewN | apply Kd.N_drew)); exact HO757.out) hb); have n2_ := Aside0.mk (blk_below (g := gb753) (o := .cells #[.slice A0_0 l0_0.length c0_0] 24 (0, 0)) (by (with_reducible repeat (first | refine blk_drewN ?_ _ | refine blk_drew ?_ | refine blk_alloc ?_ _)); exact BK753.out) hb); have n3_ := Aside0.mk (below_step (by repeat (first | (with_reducible first | exact HB.out | apply below_alloc | apply pw_below_drewN | apply below_drew1 | refine below_set ?_ GE753.out) | exact HB.out)) hb); clear HO0_0; clear HO757; clear BK753; clear HB; have HO0_0 := n0_; have HO757 := n1_; have BK753 := n2_; have HB := n3_; clear n0_ n1_ n2_ n3_; (try clear hb); (try clear hb2); (try clear hk); (try clear hi)))
            go_meet
            case rel => exact ⟨_, (t759), (by first | rfl | (simp; done) | (simp [*]; done)), H', ⟨by first | omega | exact Nat.le_refl _⟩, ⟨by (with_reducible repeat (first | apply Kd.V_alloc | apply Kd.V_drewN | apply Kd.V_drew)); exact Kd.V_mono HO0_0.out (fun _ hk => ⟨hk.1.1, hk.1.2⟩)⟩, ⟨by (with_reducible repeat (first | refine blk_drewN ?_ _ | refine blk_drew ?_ | refine blk_alloc ?_ _)); exact BK753.out⟩, ⟨by repeat (first | (with_reducible first | exact HB.out | apply below_alloc | apply pw_below_drewN | apply below_drew1 | refine below_set ?_ GE753.out) | exact HB.out)⟩⟩
        · rw [if_neg c11] at H
          have c11b0 : decide (3000 < a1) = false := decide_eq_false c11
          clear c11
          (first | rw [c11b0] | (simp only [i64_w, i32_w]; rw [c11b0]) | skip)
          replace H := Option.bind_eq_some_iff.mp H
          obtain ⟨t760, A240, H⟩ := H
          replace H : (snowlinelaw02_PackReadies.j0 k a1 a2 t760 l0_0) = some r := H
          have A24 := Aside0.mk A240
          clear A240
          have H' := Aside0.mk H
          clear H
          have hcz25_0 : w8.cell? ⟨gb753, 0, none⟩ = some (.slice A0_0 l0_0.length c0_0) := (blk_cell BK753.out 0).trans rfl
          have hfz25_0 := blk_frozen BK753.out 0
          go_wp2_with (first | ((with_reducible refine gate_dst (N := 24) rfl ?_); refine Kd.N_lit k24 _ 24 ?hg (N' := 24) ?hd (xs := ([(⟨l0_0⟩ : S24)] : List (S24))) (inner := [.slice A0_0 l0_0.length c0_0]) (ok := (fun k_ => (P0_0_ k_ ∨ w.heap.size ≤ k_) ∧ k_ ≠ gb753)) (okp := (fun k_ => (P0_0_ k_ ∨ w.heap.size ≤ k_) ∧ k_ ≠ gb753)) ?hr ?hp (fun _ hk => hk) ((show ∀ k_, w8.heap.size ≤ k_ → (fun k_ => (P0_0_ k_ ∨ w.heap.size ≤ k_) ∧ k_ ≠ gb753) k_ from fun k_ hk => ⟨(.inr (Nat.le_trans (below_size (by repeat (first | (with_reducible first | exact HB.out | apply below_alloc | apply pw_below_drewN | apply below_drew1 | refine below_set ?_ GE753.out) | exact HB.out))) hk)), Kd.freshB (g := gb753) (o := .cells #[.slice A0_0 l0_0.length c0_0] 24 (0, 0)) (by (with_reducible repeat (first | refine blk_drewN ?_ _ | refine blk_drew ?_ | refine blk_alloc ?_ _)); exact BK753.out) k_ hk⟩) _ (Nat.le_refl _)) (Below.refl _ _) (Nat.le_refl _) (by simp) ?_; (case hd => rfl); (case hg => rfl); (case hr => first | (go_simp; done) | (go_simp; rfl)); (case hp => exact (Reps.one (show Kd.FK k24 _ _ (⟨l0_0⟩ : S24) [.slice A0_0 l0_0.length c0_0] from (k24_mkF _ _ (⟨l0_0⟩ : S24) (Kd.V_reads' (Kd.V_mono (ok' := (fun k_ => (P0_0_ k_ ∨ w.heap.size ≤ k_) ∧ k_ ≠ gb753)) (HO0_0.out) (fun k_ hk => ⟨hk.1, hk.2⟩))).2.1 (Kd.V_F (Kd.V_mono (ok' := (fun k_ => (P0_0_ k_ ∨ w.heap.size ≤ k_) ∧ k_ ≠ gb753)) (HO0_0.out) (fun k_ hk => ⟨hk.1, hk.2⟩))))) (Reps.none _ _))); intro v756 w26 ho27 hb hg_ hnew_; clear hg_ hnew_; (first | rw [← Ny755.out] at ho27 | (simp only [Int.reduceToNat] at ho27; rw [← Ny755.out] at ho27)); have n0_ := Aside0.mk (Kd.V_elder' (by (with_reducible repeat (first | apply Kd.V_alloc | apply Kd.V_drewN | apply Kd.V_drew)); exact HO0_0.out) (Kd.N_base ho27) hb); have n1_ := Aside0.mk (Kd.N_lower ho27 (below_size (by repeat (first | (with_reducible first | exact HB.out | apply below_alloc | apply pw_below_drewN | apply below_drew1 | refine below_set ?_ GE753.out) | exact HB.out)))); have n2_ := Aside0.mk (blk_below (g := gb753) (o := .cells #[.slice A0_0 l0_0.length c0_0] 24 (0, 0)) (by (with_reducible repeat (first | refine blk_drewN ?_ _ | refine blk_drew ?_ | refine blk_alloc ?_ _)); exact BK753.out) hb); have n3_ := Aside0.mk (below_step (by repeat (first | (with_reducible first | exact HB.out | apply below_alloc | apply pw_below_drewN | apply below_drew1 | refine below_set ?_ GE753.out) | exact HB.out)) hb); clear HO0_0; clear BK753; clear HB; have HO0_0 := n0_; have HO757 := n1_; have BK753 := n2_; have HB := n3_; clear n0_ n1_ n2_ n3_; clear hb ho27; obtain ⟨Ao28, co28, eo28⟩ := Kd.N_slice HO757.out; subst eo28) | ((with_reducible refine gate_callee (f := 19) rfl ?_); refine goesL_ (some 25) rfl rfl Tryd.func19 (by kernel_rfl) rfl #[.slice Ao28 y755.length co28] rfl (by (try simp only [List.map_toArray, List.map_cons, List.map_nil]); first | done | rfl | (simp only [List.length_drop, List.length_take]; rfl)) ?_; (with_reducible refine (snowlinelaw02_few.calls k _ _ y755 true _ ?side1 ?side2 A9.out).mono ?_); (case side1 => repeat (first | exact (Kd.N_reads' HO757.out).2.2 | (with_reducible refine Kd.C_alloc ?_ _) | (with_reducible refine Kd.C_drewN ?_ _) | (with_reducible refine Kd.C_drew ?_))); (case side2 => exact (Kd.N_reads' HO757.out).2.1); rintro e w' ⟨rfl, ⟨nd, rfl⟩⟩; refine ⟨_, rfl, ?_⟩; have hcz29_0 : w26.cell? ⟨gb753, 0, none⟩ = some (.slice A0_0 l0_0.length c0_0) := (blk_cell BK753.out 0).trans rfl; have hfz29_0 := blk_frozen BK753.out 0) | (go_at_call 51; (with_reducible refine (snowlinelaw02_big.calls k _ _ l0_0 t760 _ ?side1 ?side2 A24.out).mono ?_); (case side1 => repeat (first | exact (Kd.V_reads' HO0_0.out).2.2 | (with_reducible refine Kd.C_alloc ?_ _) | (with_reducible refine Kd.C_drewN ?_ _) | (with_reducible refine Kd.C_drew ?_))); (case side2 => exact (Kd.V_reads' HO0_0.out).2.1); rintro e w30 ⟨rfl, hb⟩; have n0_ := Aside0.mk (Kd.V_below (by (with_reducible repeat (first | apply Kd.V_alloc | apply Kd.V_drewN | apply Kd.V_drew)); exact HO0_0.out) hb); have n1_ := Aside0.mk (Kd.N_below (by (with_reducible repeat (first | apply Kd.N_alloc | apply Kd.N_drewN | apply Kd.N_drew)); exact HO757.out) hb); have n2_ := Aside0.mk (blk_below (g := gb753) (o := .cells #[.slice A0_0 l0_0.length c0_0] 24 (0, 0)) (by (with_reducible repeat (first | refine blk_drewN ?_ _ | refine blk_drew ?_ | refine blk_alloc ?_ _)); exact BK753.out) hb); have n3_ := Aside0.mk (below_step (by repeat (first | (with_reducible first | exact HB.out | apply below_alloc | apply pw_below_drewN | apply below_drew1 | refine below_set ?_ GE753.out) | exact HB.out)) hb); clear HO0_0; clear HO757; clear BK753; clear HB; have HO0_0 := n0_; have HO757 := n1_; have BK753 := n2_; have HB := n3_; clear n0_ n1_ n2_ n3_; (try clear hb); (try clear hb2); (try clear hk); (try clear hi)))
          go_meet
          case rel => exact ⟨_, (t760), (by first | rfl | (simp; done) | (simp [*]; done)), H', ⟨by first | omega | exact Nat.le_refl _⟩, ⟨by (with_reducible repeat (first | apply Kd.V_alloc | apply Kd.V_drewN | apply Kd.V_drew)); exact Kd.V_mono HO0_0.out (fun _ hk => ⟨hk.1.1, hk.1.2⟩)⟩, ⟨by (with_reducible repeat (first | refine blk_drewN ?_ _ | refine blk_drew ?_ | refine blk_alloc ?_ _)); exact BK753.out⟩, ⟨by repeat (first | (with_reducible first | exact HB.out | apply below_alloc | apply pw_below_drewN | apply below_drew1 | refine below_set ?_ GE753.out) | exact HB.out)⟩⟩
      · replace c10 := Bool.eq_false_iff.mpr c10
        subst c10
        have H1 : (snowlinelaw02_PackReadies.j0 k a1 a2 true l0_0) = some r := by rw [if_neg (show ¬ (false = true) by decide)] at H; exact H
        clear H
        have H := H1
        clear H1
        have H' := Aside0.mk H
        clear H
        have hcz31_0 : w8.cell? ⟨gb753, 0, none⟩ = some (.slice A0_0 l0_0.length c0_0) := (blk_cell BK753.out 0).trans rfl
        have hfz31_0 := blk_frozen BK753.out 0
        go_wp2_with (first | ((with_reducible refine gate_dst (N := 24) rfl ?_); refine Kd.N_lit k24 _ 24 ?hg (N' := 24) ?hd (xs := ([(⟨l0_0⟩ : S24)] : List (S24))) (inner := [.slice A0_0 l0_0.length c0_0]) (ok := (fun k_ => (P0_0_ k_ ∨ w.heap.size ≤ k_) ∧ k_ ≠ gb753)) (okp := (fun k_ => (P0_0_ k_ ∨ w.heap.size ≤ k_) ∧ k_ ≠ gb753)) ?hr ?hp (fun _ hk => hk) ((show ∀ k_, w8.heap.size ≤ k_ → (fun k_ => (P0_0_ k_ ∨ w.heap.size ≤ k_) ∧ k_ ≠ gb753) k_ from fun k_ hk => ⟨(.inr (Nat.le_trans (below_size (by repeat (first | (with_reducible first | exact HB.out | apply below_alloc | apply pw_below_drewN | apply below_drew1 | refine below_set ?_ GE753.out) | exact HB.out))) hk)), Kd.freshB (g := gb753) (o := .cells #[.slice A0_0 l0_0.length c0_0] 24 (0, 0)) (by (with_reducible repeat (first | refine blk_drewN ?_ _ | refine blk_drew ?_ | refine blk_alloc ?_ _)); exact BK753.out) k_ hk⟩) _ (Nat.le_refl _)) (Below.refl _ _) (Nat.le_refl _) (by simp) ?_; (case hd => rfl); (case hg => rfl); (case hr => first | (go_simp; done) | (go_simp; rfl)); (case hp => exact (Reps.one (show Kd.FK k24 _ _ (⟨l0_0⟩ : S24) [.slice A0_0 l0_0.length c0_0] from (k24_mkF _ _ (⟨l0_0⟩ : S24) (Kd.V_reads' (Kd.V_mono (ok' := (fun k_ => (P0_0_ k_ ∨ w.heap.size ≤ k_) ∧ k_ ≠ gb753)) (HO0_0.out) (fun k_ hk => ⟨hk.1, hk.2⟩))).2.1 (Kd.V_F (Kd.V_mono (ok' := (fun k_ => (P0_0_ k_ ∨ w.heap.size ≤ k_) ∧ k_ ≠ gb753)) (HO0_0.out) (fun k_ hk => ⟨hk.1, hk.2⟩))))) (Reps.none _ _))); intro v756 w32 ho33 hb hg_ hnew_; clear hg_ hnew_; (first | rw [← Ny755.out] at ho33 | (simp only [Int.reduceToNat] at ho33; rw [← Ny755.out] at ho33)); have n0_ := Aside0.mk (Kd.V_elder' (by (with_reducible repeat (first | apply Kd.V_alloc | apply Kd.V_drewN | apply Kd.V_drew)); exact HO0_0.out) (Kd.N_base ho33) hb); have n1_ := Aside0.mk (Kd.N_lower ho33 (below_size (by repeat (first | (with_reducible first | exact HB.out | apply below_alloc | apply pw_below_drewN | apply below_drew1 | refine below_set ?_ GE753.out) | exact HB.out)))); have n2_ := Aside0.mk (blk_below (g := gb753) (o := .cells #[.slice A0_0 l0_0.length c0_0] 24 (0, 0)) (by (with_reducible repeat (first | refine blk_drewN ?_ _ | refine blk_drew ?_ | refine blk_alloc ?_ _)); exact BK753.out) hb); have n3_ := Aside0.mk (below_step (by repeat (first | (with_reducible first | exact HB.out | apply below_alloc | apply pw_below_drewN | apply below_drew1 | refine below_set ?_ GE753.out) | exact HB.out)) hb); clear HO0_0; clear BK753; clear HB; have HO0_0 := n0_; have HO757 := n1_; have BK753 := n2_; have HB := n3_; clear n0_ n1_ n2_ n3_; clear hb ho33; obtain ⟨Ao34, co34, eo34⟩ := Kd.N_slice HO757.out; subst eo34) | ((with_reducible refine gate_callee (f := 19) rfl ?_); refine goesL_ (some 25) rfl rfl Tryd.func19 (by kernel_rfl) rfl #[.slice Ao34 y755.length co34] rfl (by (try simp only [List.map_toArray, List.map_cons, List.map_nil]); first | done | rfl | (simp only [List.length_drop, List.length_take]; rfl)) ?_; (with_reducible refine (snowlinelaw02_few.calls k _ _ y755 false _ ?side1 ?side2 A9.out).mono ?_); (case side1 => repeat (first | exact (Kd.N_reads' HO757.out).2.2 | (with_reducible refine Kd.C_alloc ?_ _) | (with_reducible refine Kd.C_drewN ?_ _) | (with_reducible refine Kd.C_drew ?_))); (case side2 => exact (Kd.N_reads' HO757.out).2.1); rintro e w' ⟨rfl, ⟨nd, rfl⟩⟩; refine ⟨_, rfl, ?_⟩))
        go_meet
        case rel => exact ⟨_, (true), (by first | rfl | (simp; done) | (simp [*]; done)), H', ⟨by first | omega | exact Nat.le_refl _⟩, ⟨by (with_reducible repeat (first | apply Kd.V_alloc | apply Kd.V_drewN | apply Kd.V_drew)); exact Kd.V_mono HO0_0.out (fun _ hk => ⟨hk.1.1, hk.1.2⟩)⟩, ⟨by (with_reducible repeat (first | refine blk_drewN ?_ _ | refine blk_drew ?_ | refine blk_alloc ?_ _)); exact BK753.out⟩, ⟨by repeat (first | (with_reducible first | exact HB.out | apply below_alloc | apply pw_below_drewN | apply below_drew1 | refine below_set ?_ GE753.out) | exact HB.out)⟩⟩
    case rest =>
      clear HC6
      try clear c1
      try clear p2
      try clear c5
      try clear c10
      try clear c11
      try clear c11b0
      try clear c12
      try clear c12b0
      try clear c15
      try clear c18
      try clear c19
      try clear hcz13_0
      try clear hcz18_0
      try clear hcz22_0
      try clear hcz25_0
      try clear hcz29_0
      try clear hcz31_0
      try clear hfz13_0
      try clear hfz18_0
      try clear hfz22_0
      try clear hfz25_0
      try clear hfz29_0
      try clear hfz31_0
      obtain ⟨kq, x38_5, rfl, HA, HJ5, HO_754000, BK753, HB⟩ := hcut
      cases kq with
      | zero => exact absurd HA.out (by simp [snowlinelaw02_PackReadies.j0])
      | succ kj5 =>
        have H := HA.out
        clear HA
        simp only [snowlinelaw02_PackReadies.j0] at H
        by_cases c35 : x38_5 = true
        · subst c35
          have H1 : (some true) = some r := by rw [if_pos rfl] at H; exact H
          clear H
          have H := H1
          clear H1
          obtain rfl := Option.some.inj H
          go_wp2
          go_ret
          exact ⟨by first | rfl | (simp [errW_none, errW_some] <;> rfl) | (simp [*, errW_none, errW_some] <;> rfl), by repeat (first | (with_reducible first | exact HB.out | apply below_alloc | apply pw_below_drewN | apply below_drew1 | refine below_set ?_ GE753.out) | exact HB.out)⟩
        · replace c35 := Bool.eq_false_iff.mpr c35
          subst c35
          have H1 : ((pack_Ready.f kj5 l0_0).bind fun bt761 => ((snowlineref02_Ready.f kj5 l0_0).bind fun bt763 => ((pack_Yield.f l0_0 a1).bind fun bt765 => ((snowlineref02_Yield.f kj5 l0_0 a1).bind fun bt767 => ((pack_Enough.f l0_0 a2).bind fun bt769 => ((snowlineref02_Enough.f kj5 l0_0 a2).bind fun bt772 => (if bt761.1 = bt763.1 then (if bt761.2 = bt763.2 then (if bt765.1 = bt767.1 then (if bt765.2 = bt767.2 then (if bt769.1 = bt772.1 then (if (bt769.2.1 == bt772.2.1) = true then (some (bt769.2.2 == bt772.2.2)) else (some false)) else (some false)) else (some false)) else (some false)) else (some false)) else (some false)))))))) = some r := by rw [if_neg (show ¬ (false = true) by decide)] at H; exact H
          clear H
          have H := H1
          clear H1
          replace H := Option.bind_eq_some_iff.mp H
          obtain ⟨⟨t761, t762⟩, A360, H⟩ := H
          replace H : ((snowlineref02_Ready.f kj5 l0_0).bind fun bt763 => ((pack_Yield.f l0_0 a1).bind fun bt765 => ((snowlineref02_Yield.f kj5 l0_0 a1).bind fun bt767 => ((pack_Enough.f l0_0 a2).bind fun bt769 => ((snowlineref02_Enough.f kj5 l0_0 a2).bind fun bt772 => (if t761 = bt763.1 then (if t762 = bt763.2 then (if bt765.1 = bt767.1 then (if bt765.2 = bt767.2 then (if bt769.1 = bt772.1 then (if (bt769.2.1 == bt772.2.1) = true then (some (bt769.2.2 == bt772.2.2)) else (some false)) else (some false)) else (some false)) else (some false)) else (some false)) else (some false))))))) = some r := H
          have A36 := Aside0.mk A360
          clear A360
          replace H := Option.bind_eq_some_iff.mp H
          obtain ⟨⟨t763, t764⟩, A370, H⟩ := H
          replace H : ((pack_Yield.f l0_0 a1).bind fun bt765 => ((snowlineref02_Yield.f kj5 l0_0 a1).bind fun bt767 => ((pack_Enough.f l0_0 a2).bind fun bt769 => ((snowlineref02_Enough.f kj5 l0_0 a2).bind fun bt772 => (if t761 = t763 then (if t762 = t764 then (if bt765.1 = bt767.1 then (if bt765.2 = bt767.2 then (if bt769.1 = bt772.1 then (if (bt769.2.1 == bt772.2.1) = true then (some (bt769.2.2 == bt772.2.2)) else (some false)) else (some false)) else (some false)) else (some false)) else (some false)) else (some false)))))) = some r := H
          have A37 := Aside0.mk A370
          clear A370
          replace H := Option.bind_eq_some_iff.mp H
          obtain ⟨⟨t765, t766⟩, A380, H⟩ := H
          replace H : ((snowlineref02_Yield.f kj5 l0_0 a1).bind fun bt767 => ((pack_Enough.f l0_0 a2).bind fun bt769 => ((snowlineref02_Enough.f kj5 l0_0 a2).bind fun bt772 => (if t761 = t763 then (if t762 = t764 then (if t765 = bt767.1 then (if t766 = bt767.2 then (if bt769.1 = bt772.1 then (if (bt769.2.1 == bt772.2.1) = true then (some (bt769.2.2 == bt772.2.2)) else (some false)) else (some false)) else (some false)) else (some false)) else (some false)) else (some false))))) = some r := H
          have A38 := Aside0.mk A380
          clear A380
          replace H := Option.bind_eq_some_iff.mp H
          obtain ⟨⟨t767, t768⟩, A390, H⟩ := H
          replace H : ((pack_Enough.f l0_0 a2).bind fun bt769 => ((snowlineref02_Enough.f kj5 l0_0 a2).bind fun bt772 => (if t761 = t763 then (if t762 = t764 then (if t765 = t767 then (if t766 = t768 then (if bt769.1 = bt772.1 then (if (bt769.2.1 == bt772.2.1) = true then (some (bt769.2.2 == bt772.2.2)) else (some false)) else (some false)) else (some false)) else (some false)) else (some false)) else (some false)))) = some r := H
          have A39 := Aside0.mk A390
          clear A390
          replace H := Option.bind_eq_some_iff.mp H
          obtain ⟨⟨t769, t770, t771⟩, A400, H⟩ := H
          replace H : ((snowlineref02_Enough.f kj5 l0_0 a2).bind fun bt772 => (if t761 = t763 then (if t762 = t764 then (if t765 = t767 then (if t766 = t768 then (if t769 = bt772.1 then (if (t770 == bt772.2.1) = true then (some (t771 == bt772.2.2)) else (some false)) else (some false)) else (some false)) else (some false)) else (some false)) else (some false))) = some r := H
          have A40 := Aside0.mk A400
          clear A400
          replace H := Option.bind_eq_some_iff.mp H
          obtain ⟨⟨t772, t773, t774⟩, A410, H⟩ := H
          replace H : (if t761 = t763 then (if t762 = t764 then (if t765 = t767 then (if t766 = t768 then (if t769 = t772 then (if (t770 == t773) = true then (some (t771 == t774)) else (some false)) else (some false)) else (some false)) else (some false)) else (some false)) else (some false)) = some r := H
          have A41 := Aside0.mk A410
          clear A410
          by_cases c42 : t761 = t763
          · rw [if_pos c42] at H
            have c42b0 : (t761 == t763) = true := beq_iff_eq.mpr c42
            have c42b1 : (t761 != t763) = false := bne_eq_false_iff_eq.mpr c42
            clear c42
            by_cases c43 : t762 = t764
            · rw [if_pos c43] at H
              have c43b0 : (t762 == t764) = true := beq_iff_eq.mpr c43
              have c43b1 : (t762 != t764) = false := bne_eq_false_iff_eq.mpr c43
              clear c43
              by_cases c44 : t765 = t767
              · rw [if_pos c44] at H
                have c44b0 : (t765 == t767) = true := beq_iff_eq.mpr c44
                have c44b1 : (t765 != t767) = false := bne_eq_false_iff_eq.mpr c44
                clear c44
                by_cases c45 : t766 = t768
                · rw [if_pos c45] at H
                  have c45b0 : (t766 == t768) = true := beq_iff_eq.mpr c45
                  have c45b1 : (t766 != t768) = false := bne_eq_false_iff_eq.mpr c45
                  clear c45
                  by_cases c46 : t769 = t772
                  · rw [if_pos c46] at H
                    have c46b0 : (t769 == t772) = true := beq_iff_eq.mpr c46
                    have c46b1 : (t769 != t772) = false := bne_eq_false_iff_eq.mpr c46
                    clear c46
                    by_cases c47 : (t770 == t773) = true
                    · rw [if_pos c47] at H
                      have c47b0 : (t770 == t773) = true := c47
                      (try (have c47b1 : decide (t770 = t773) = true := by simpa using c47))
                      (try (have c47b2 : (t770 == t773) = true := by simpa using c47))
                      clear c47
                      obtain rfl := Option.some.inj H
                      have hcz48_0 : wc.cell? ⟨gb753, 0, none⟩ = some (.slice A0_0 l0_0.length c0_0) := (blk_cell BK753.out 0).trans rfl
                      have hfz48_0 := blk_frozen BK753.out 0
                      go_wp2_with (first | ((with_reducible refine gate_callee (f := 26) rfl ?_); refine goesL_ (some 41) rfl rfl Tryd.func26 (by kernel_rfl) rfl #[.agg #[.slice A0_0 l0_0.length c0_0]] rfl (by (try simp only [List.map_toArray, List.map_cons, List.map_nil]); first | done | rfl | (simp only [List.length_drop, List.length_take]; rfl)) ?_; (with_reducible refine (pack_Ready.calls kj5 _ _ l0_0 t761 t762 _ ?side1 ?side2 A36.out).mono ?_); (case side1 => repeat (first | exact (Kd.V_reads' HO_754000.out).2.2 | (with_reducible refine Kd.C_alloc ?_ _) | (with_reducible refine Kd.C_drewN ?_ _) | (with_reducible refine Kd.C_drew ?_))); (case side2 => exact (Kd.V_reads' HO_754000.out).2.1); rintro e w49 ⟨rfl, hb⟩; refine ⟨_, rfl, ?_⟩; have n0_ := Aside0.mk (Kd.V_below (by (with_reducible repeat (first | apply Kd.V_alloc | apply Kd.V_drewN | apply Kd.V_drew)); exact HO_754000.out) hb); have n1_ := Aside0.mk (blk_below (g := gb753) (o := .cells #[.slice A0_0 l0_0.length c0_0] 24 (0, 0)) (by (with_reducible repeat (first | refine blk_drewN ?_ _ | refine blk_drew ?_ | refine blk_alloc ?_ _)); exact BK753.out) hb); have n2_ := Aside0.mk (below_step (by repeat (first | (with_reducible first | exact HB.out | apply below_alloc | apply pw_below_drewN | apply below_drew1 | refine below_set ?_ GE753.out) | exact HB.out)) hb); clear HO_754000; clear BK753; clear HB; have HO_754000 := n0_; have BK753 := n1_; have HB := n2_; clear n0_ n1_ n2_; (try clear hb); (try clear hb2); (try clear hk); (try clear hi); have hcz50_0 : w49.cell? ⟨gb753, 0, none⟩ = some (.slice A0_0 l0_0.length c0_0) := (blk_cell BK753.out 0).trans rfl; have hfz50_0 := blk_frozen BK753.out 0) | ((with_reducible refine gate_callee (f := 52) rfl ?_); refine goesL_ (some 46) rfl rfl Tryd.func52 (by kernel_rfl) rfl #[.agg #[.slice A0_0 l0_0.length c0_0]] rfl (by (try simp only [List.map_toArray, List.map_cons, List.map_nil]); first | done | rfl | (simp only [List.length_drop, List.length_take]; rfl)) ?_; (with_reducible refine (snowlineref02_Ready.calls kj5 _ _ l0_0 t763 t764 _ ?side1 ?side2 A37.out).mono ?_); (case side1 => repeat (first | exact (Kd.V_reads' HO_754000.out).2.2 | (with_reducible refine Kd.C_alloc ?_ _) | (with_reducible refine Kd.C_drewN ?_ _) | (with_reducible refine Kd.C_drew ?_))); (case side2 => exact (Kd.V_reads' HO_754000.out).2.1); rintro e w51 ⟨rfl, hb⟩; refine ⟨_, rfl, ?_⟩; have n0_ := Aside0.mk (Kd.V_below (by (with_reducible repeat (first | apply Kd.V_alloc | apply Kd.V_drewN | apply Kd.V_drew)); exact HO_754000.out) hb); have n1_ := Aside0.mk (blk_below (g := gb753) (o := .cells #[.slice A0_0 l0_0.length c0_0] 24 (0, 0)) (by (with_reducible repeat (first | refine blk_drewN ?_ _ | refine blk_drew ?_ | refine blk_alloc ?_ _)); exact BK753.out) hb); have n2_ := Aside0.mk (below_step (by repeat (first | (with_reducible first | exact HB.out | apply below_alloc | apply pw_below_drewN | apply below_drew1 | refine below_set ?_ GE753.out) | exact HB.out)) hb); clear HO_754000; clear BK753; clear HB; have HO_754000 := n0_; have BK753 := n1_; have HB := n2_; clear n0_ n1_ n2_; (try clear hb); (try clear hb2); (try clear hk); (try clear hi); have hcz52_0 : w51.cell? ⟨gb753, 0, none⟩ = some (.slice A0_0 l0_0.length c0_0) := (blk_cell BK753.out 0).trans rfl; have hfz52_0 := blk_frozen BK753.out 0) | ((with_reducible refine gate_callee (f := 53) rfl ?_); refine goesL_ (some 52) rfl rfl Tryd.func53 (by kernel_rfl) rfl #[.agg #[.slice A0_0 l0_0.length c0_0], .int .i64 a1] rfl (by (try simp only [List.map_toArray, List.map_cons, List.map_nil]); first | done | rfl | (simp only [List.length_drop, List.length_take]; rfl)) ?_; (with_reducible refine (pack_Yield.calls _ _ l0_0 a1 t765 t766 _ ?side1 ?side2 A38.out).mono ?_); (case side1 => repeat (first | exact (Kd.V_reads' HO_754000.out).2.2 | (with_reducible refine Kd.C_alloc ?_ _) | (with_reducible refine Kd.C_drewN ?_ _) | (with_reducible refine Kd.C_drew ?_))); (case side2 => exact (Kd.V_reads' HO_754000.out).2.1); rintro e w53 ⟨rfl, hb⟩; refine ⟨_, rfl, ?_⟩; have n0_ := Aside0.mk (Kd.V_below (by (with_reducible repeat (first | apply Kd.V_alloc | apply Kd.V_drewN | apply Kd.V_drew)); exact HO_754000.out) hb); have n1_ := Aside0.mk (blk_below (g := gb753) (o := .cells #[.slice A0_0 l0_0.length c0_0] 24 (0, 0)) (by (with_reducible repeat (first | refine blk_drewN ?_ _ | refine blk_drew ?_ | refine blk_alloc ?_ _)); exact BK753.out) hb); have n2_ := Aside0.mk (below_step (by repeat (first | (with_reducible first | exact HB.out | apply below_alloc | apply pw_below_drewN | apply below_drew1 | refine below_set ?_ GE753.out) | exact HB.out)) hb); clear HO_754000; clear BK753; clear HB; have HO_754000 := n0_; have BK753 := n1_; have HB := n2_; clear n0_ n1_ n2_; (try clear hb); (try clear hb2); (try clear hk); (try clear hi); have hcz54_0 : w53.cell? ⟨gb753, 0, none⟩ = some (.slice A0_0 l0_0.length c0_0) := (blk_cell BK753.out 0).trans rfl; have hfz54_0 := blk_frozen BK753.out 0) | ((with_reducible refine gate_callee (f := 54) rfl ?_); refine goesL_ (some 58) rfl rfl Tryd.func54 (by kernel_rfl) rfl #[.agg #[.slice A0_0 l0_0.length c0_0], .int .i64 a1] rfl (by (try simp only [List.map_toArray, List.map_cons, List.map_nil]); first | done | rfl | (simp only [List.length_drop, List.length_take]; rfl)) ?_; (with_reducible refine (snowlineref02_Yield.calls kj5 _ _ l0_0 a1 t767 t768 _ ?side1 ?side2 A39.out).mono ?_); (case side1 => repeat (first | exact (Kd.V_reads' HO_754000.out).2.2 | (with_reducible refine Kd.C_alloc ?_ _) | (with_reducible refine Kd.C_drewN ?_ _) | (with_reducible refine Kd.C_drew ?_))); (case side2 => exact (Kd.V_reads' HO_754000.out).2.1); rintro e w55 ⟨rfl, hb⟩; refine ⟨_, rfl, ?_⟩; have n0_ := Aside0.mk (Kd.V_below (by (with_reducible repeat (first | apply Kd.V_alloc | apply Kd.V_drewN | apply Kd.V_drew)); exact HO_754000.out) hb); have n1_ := Aside0.mk (blk_below (g := gb753) (o := .cells #[.slice A0_0 l0_0.length c0_0] 24 (0, 0)) (by (with_reducible repeat (first | refine blk_drewN ?_ _ | refine blk_drew ?_ | refine blk_alloc ?_ _)); exact BK753.out) hb); have n2_ := Aside0.mk (below_step (by repeat (first | (with_reducible first | exact HB.out | apply below_alloc | apply pw_below_drewN | apply below_drew1 | refine below_set ?_ GE753.out) | exact HB.out)) hb); clear HO_754000; clear BK753; clear HB; have HO_754000 := n0_; have BK753 := n1_; have HB := n2_; clear n0_ n1_ n2_; (try clear hb); (try clear hb2); (try clear hk); (try clear hi); have hcz56_0 : w55.cell? ⟨gb753, 0, none⟩ = some (.slice A0_0 l0_0.length c0_0) := (blk_cell BK753.out 0).trans rfl; have hfz56_0 := blk_frozen BK753.out 0) | ((with_reducible refine gate_callee (f := 55) rfl ?_); refine goesL_ (some 64) rfl rfl Tryd.func55 (by kernel_rfl) rfl #[.agg #[.slice A0_0 l0_0.length c0_0], .int .i64 a2] rfl (by (try simp only [List.map_toArray, List.map_cons, List.map_nil]); first | done | rfl | (simp only [List.length_drop, List.length_take]; rfl)) ?_; (with_reducible refine (pack_Enough.calls _ _ l0_0 a2 t769 t770 t771 _ ?side1 ?side2 A40.out).mono ?_); (case side1 => repeat (first | exact (Kd.V_reads' HO_754000.out).2.2 | (with_reducible refine Kd.C_alloc ?_ _) | (with_reducible refine Kd.C_drewN ?_ _) | (with_reducible refine Kd.C_drew ?_))); (case side2 => exact (Kd.V_reads' HO_754000.out).2.1); rintro e w57 ⟨rfl, hb⟩; refine ⟨_, rfl, ?_⟩; have n0_ := Aside0.mk (Kd.V_below (by (with_reducible repeat (first | apply Kd.V_alloc | apply Kd.V_drewN | apply Kd.V_drew)); exact HO_754000.out) hb); have n1_ := Aside0.mk (blk_below (g := gb753) (o := .cells #[.slice A0_0 l0_0.length c0_0] 24 (0, 0)) (by (with_reducible repeat (first | refine blk_drewN ?_ _ | refine blk_drew ?_ | refine blk_alloc ?_ _)); exact BK753.out) hb); have n2_ := Aside0.mk (below_step (by repeat (first | (with_reducible first | exact HB.out | apply below_alloc | apply pw_below_drewN | apply below_drew1 | refine below_set ?_ GE753.out) | exact HB.out)) hb); clear HO_754000; clear BK753; clear HB; have HO_754000 := n0_; have BK753 := n1_; have HB := n2_; clear n0_ n1_ n2_; (try clear hb); (try clear hb2); (try clear hk); (try clear hi); have hcz58_0 : w57.cell? ⟨gb753, 0, none⟩ = some (.slice A0_0 l0_0.length c0_0) := (blk_cell BK753.out 0).trans rfl; have hfz58_0 := blk_frozen BK753.out 0) | ((with_reducible refine gate_callee (f := 56) rfl ?_); refine goesL_ (some 71) rfl rfl Tryd.func56 (by kernel_rfl) rfl #[.agg #[.slice A0_0 l0_0.length c0_0], .int .i64 a2] rfl (by (try simp only [List.map_toArray, List.map_cons, List.map_nil]); first | done | rfl | (simp only [List.length_drop, List.length_take]; rfl)) ?_; (with_reducible refine (snowlineref02_Enough.calls kj5 (fun k_ => ((P0_0_ k_ ∨ w.heap.size ≤ k_) ∧ k_ ≠ gb753)) _ _ l0_0 a2 t772 t773 t774 _ ?side1 A41.out).mono ?_); (case side1 => exact HO_754000.out); rintro e w59 ⟨rfl, hb⟩; refine ⟨_, rfl, ?_⟩; have n0_ := Aside0.mk (Kd.V_below (by (with_reducible repeat (first | apply Kd.V_alloc | apply Kd.V_drewN | apply Kd.V_drew)); exact HO_754000.out) hb); have n1_ := Aside0.mk (blk_below (g := gb753) (o := .cells #[.slice A0_0 l0_0.length c0_0] 24 (0, 0)) (by (with_reducible repeat (first | refine blk_drewN ?_ _ | refine blk_drew ?_ | refine blk_alloc ?_ _)); exact BK753.out) hb); have n2_ := Aside0.mk (below_step (by repeat (first | (with_reducible first | exact HB.out | apply below_alloc | apply pw_below_drewN | apply below_drew1 | refine below_set ?_ GE753.out) | exact HB.out)) hb); clear HO_754000; clear BK753; clear HB; have HO_754000 := n0_; have BK753 := n1_; have HB := n2_; clear n0_ n1_ n2_; (try clear hb); (try clear hb2); (try clear hk); (try clear hi)))
                      go_ret
                      exact ⟨by first | rfl | (simp [errW_none, errW_some] <;> rfl) | (simp [*, errW_none, errW_some] <;> rfl), by repeat (first | (with_reducible first | exact HB.out | apply below_alloc | apply pw_below_drewN | apply below_drew1 | refine below_set ?_ GE753.out) | exact HB.out)⟩
                    · rw [if_neg c47] at H
                      have c47b0 : (t770 == t773) = false := by simpa using c47
                      (try (have c47b1 : decide (t770 = t773) = false := by simpa using c47))
                      (try (have c47b2 : (t770 == t773) = false := by simpa using c47))
                      (try (have c47b3 : ¬ (t770 = t773) := by simpa using c47))
                      clear c47
                      obtain rfl := Option.some.inj H
                      have hcz60_0 : wc.cell? ⟨gb753, 0, none⟩ = some (.slice A0_0 l0_0.length c0_0) := (blk_cell BK753.out 0).trans rfl
                      have hfz60_0 := blk_frozen BK753.out 0
                      go_wp2_with (first | ((with_reducible refine gate_callee (f := 26) rfl ?_); refine goesL_ (some 41) rfl rfl Tryd.func26 (by kernel_rfl) rfl #[.agg #[.slice A0_0 l0_0.length c0_0]] rfl (by (try simp only [List.map_toArray, List.map_cons, List.map_nil]); first | done | rfl | (simp only [List.length_drop, List.length_take]; rfl)) ?_; (with_reducible refine (pack_Ready.calls kj5 _ _ l0_0 t761 t762 _ ?side1 ?side2 A36.out).mono ?_); (case side1 => repeat (first | exact (Kd.V_reads' HO_754000.out).2.2 | (with_reducible refine Kd.C_alloc ?_ _) | (with_reducible refine Kd.C_drewN ?_ _) | (with_reducible refine Kd.C_drew ?_))); (case side2 => exact (Kd.V_reads' HO_754000.out).2.1); rintro e w61 ⟨rfl, hb⟩; refine ⟨_, rfl, ?_⟩; have n0_ := Aside0.mk (Kd.V_below (by (with_reducible repeat (first | apply Kd.V_alloc | apply Kd.V_drewN | apply Kd.V_drew)); exact HO_754000.out) hb); have n1_ := Aside0.mk (blk_below (g := gb753) (o := .cells #[.slice A0_0 l0_0.length c0_0] 24 (0, 0)) (by (with_reducible repeat (first | refine blk_drewN ?_ _ | refine blk_drew ?_ | refine blk_alloc ?_ _)); exact BK753.out) hb); have n2_ := Aside0.mk (below_step (by repeat (first | (with_reducible first | exact HB.out | apply below_alloc | apply pw_below_drewN | apply below_drew1 | refine below_set ?_ GE753.out) | exact HB.out)) hb); clear HO_754000; clear BK753; clear HB; have HO_754000 := n0_; have BK753 := n1_; have HB := n2_; clear n0_ n1_ n2_; (try clear hb); (try clear hb2); (try clear hk); (try clear hi); have hcz62_0 : w61.cell? ⟨gb753, 0, none⟩ = some (.slice A0_0 l0_0.length c0_0) := (blk_cell BK753.out 0).trans rfl; have hfz62_0 := blk_frozen BK753.out 0) | ((with_reducible refine gate_callee (f := 52) rfl ?_); refine goesL_ (some 46) rfl rfl Tryd.func52 (by kernel_rfl) rfl #[.agg #[.slice A0_0 l0_0.length c0_0]] rfl (by (try simp only [List.map_toArray, List.map_cons, List.map_nil]); first | done | rfl | (simp only [List.length_drop, List.length_take]; rfl)) ?_; (with_reducible refine (snowlineref02_Ready.calls kj5 _ _ l0_0 t763 t764 _ ?side1 ?side2 A37.out).mono ?_); (case side1 => repeat (first | exact (Kd.V_reads' HO_754000.out).2.2 | (with_reducible refine Kd.C_alloc ?_ _) | (with_reducible refine Kd.C_drewN ?_ _) | (with_reducible refine Kd.C_drew ?_))); (case side2 => exact (Kd.V_reads' HO_754000.out).2.1); rintro e w63 ⟨rfl, hb⟩; refine ⟨_, rfl, ?_⟩; have n0_ := Aside0.mk (Kd.V_below (by (with_reducible repeat (first | apply Kd.V_alloc | apply Kd.V_drewN | apply Kd.V_drew)); exact HO_754000.out) hb); have n1_ := Aside0.mk (blk_below (g := gb753) (o := .cells #[.slice A0_0 l0_0.length c0_0] 24 (0, 0)) (by (with_reducible repeat (first | refine blk_drewN ?_ _ | refine blk_drew ?_ | refine blk_alloc ?_ _)); exact BK753.out) hb); have n2_ := Aside0.mk (below_step (by repeat (first | (with_reducible first | exact HB.out | apply below_alloc | apply pw_below_drewN | apply below_drew1 | refine below_set ?_ GE753.out) | exact HB.out)) hb); clear HO_754000; clear BK753; clear HB; have HO_754000 := n0_; have BK753 := n1_; have HB := n2_; clear n0_ n1_ n2_; (try clear hb); (try clear hb2); (try clear hk); (try clear hi); have hcz64_0 : w63.cell? ⟨gb753, 0, none⟩ = some (.slice A0_0 l0_0.length c0_0) := (blk_cell BK753.out 0).trans rfl; have hfz64_0 := blk_frozen BK753.out 0) | ((with_reducible refine gate_callee (f := 53) rfl ?_); refine goesL_ (some 52) rfl rfl Tryd.func53 (by kernel_rfl) rfl #[.agg #[.slice A0_0 l0_0.length c0_0], .int .i64 a1] rfl (by (try simp only [List.map_toArray, List.map_cons, List.map_nil]); first | done | rfl | (simp only [List.length_drop, List.length_take]; rfl)) ?_; (with_reducible refine (pack_Yield.calls _ _ l0_0 a1 t765 t766 _ ?side1 ?side2 A38.out).mono ?_); (case side1 => repeat (first | exact (Kd.V_reads' HO_754000.out).2.2 | (with_reducible refine Kd.C_alloc ?_ _) | (with_reducible refine Kd.C_drewN ?_ _) | (with_reducible refine Kd.C_drew ?_))); (case side2 => exact (Kd.V_reads' HO_754000.out).2.1); rintro e w65 ⟨rfl, hb⟩; refine ⟨_, rfl, ?_⟩; have n0_ := Aside0.mk (Kd.V_below (by (with_reducible repeat (first | apply Kd.V_alloc | apply Kd.V_drewN | apply Kd.V_drew)); exact HO_754000.out) hb); have n1_ := Aside0.mk (blk_below (g := gb753) (o := .cells #[.slice A0_0 l0_0.length c0_0] 24 (0, 0)) (by (with_reducible repeat (first | refine blk_drewN ?_ _ | refine blk_drew ?_ | refine blk_alloc ?_ _)); exact BK753.out) hb); have n2_ := Aside0.mk (below_step (by repeat (first | (with_reducible first | exact HB.out | apply below_alloc | apply pw_below_drewN | apply below_drew1 | refine below_set ?_ GE753.out) | exact HB.out)) hb); clear HO_754000; clear BK753; clear HB; have HO_754000 := n0_; have BK753 := n1_; have HB := n2_; clear n0_ n1_ n2_; (try clear hb); (try clear hb2); (try clear hk); (try clear hi); have hcz66_0 : w65.cell? ⟨gb753, 0, none⟩ = some (.slice A0_0 l0_0.length c0_0) := (blk_cell BK753.out 0).trans rfl; have hfz66_0 := blk_frozen BK753.out 0) | ((with_reducible refine gate_callee (f := 54) rfl ?_); refine goesL_ (some 58) rfl rfl Tryd.func54 (by kernel_rfl) rfl #[.agg #[.slice A0_0 l0_0.length c0_0], .int .i64 a1] rfl (by (try simp only [List.map_toArray, List.map_cons, List.map_nil]); first | done | rfl | (simp only [List.length_drop, List.length_take]; rfl)) ?_; (with_reducible refine (snowlineref02_Yield.calls kj5 _ _ l0_0 a1 t767 t768 _ ?side1 ?side2 A39.out).mono ?_); (case side1 => repeat (first | exact (Kd.V_reads' HO_754000.out).2.2 | (with_reducible refine Kd.C_alloc ?_ _) | (with_reducible refine Kd.C_drewN ?_ _) | (with_reducible refine Kd.C_drew ?_))); (case side2 => exact (Kd.V_reads' HO_754000.out).2.1); rintro e w67 ⟨rfl, hb⟩; refine ⟨_, rfl, ?_⟩; have n0_ := Aside0.mk (Kd.V_below (by (with_reducible repeat (first | apply Kd.V_alloc | apply Kd.V_drewN | apply Kd.V_drew)); exact HO_754000.out) hb); have n1_ := Aside0.mk (blk_below (g := gb753) (o := .cells #[.slice A0_0 l0_0.length c0_0] 24 (0, 0)) (by (with_reducible repeat (first | refine blk_drewN ?_ _ | refine blk_drew ?_ | refine blk_alloc ?_ _)); exact BK753.out) hb); have n2_ := Aside0.mk (below_step (by repeat (first | (with_reducible first | exact HB.out | apply below_alloc | apply pw_below_drewN | apply below_drew1 | refine below_set ?_ GE753.out) | exact HB.out)) hb); clear HO_754000; clear BK753; clear HB; have HO_754000 := n0_; have BK753 := n1_; have HB := n2_; clear n0_ n1_ n2_; (try clear hb); (try clear hb2); (try clear hk); (try clear hi); have hcz68_0 : w67.cell? ⟨gb753, 0, none⟩ = some (.slice A0_0 l0_0.length c0_0) := (blk_cell BK753.out 0).trans rfl; have hfz68_0 := blk_frozen BK753.out 0) | ((with_reducible refine gate_callee (f := 55) rfl ?_); refine goesL_ (some 64) rfl rfl Tryd.func55 (by kernel_rfl) rfl #[.agg #[.slice A0_0 l0_0.length c0_0], .int .i64 a2] rfl (by (try simp only [List.map_toArray, List.map_cons, List.map_nil]); first | done | rfl | (simp only [List.length_drop, List.length_take]; rfl)) ?_; (with_reducible refine (pack_Enough.calls _ _ l0_0 a2 t769 t770 t771 _ ?side1 ?side2 A40.out).mono ?_); (case side1 => repeat (first | exact (Kd.V_reads' HO_754000.out).2.2 | (with_reducible refine Kd.C_alloc ?_ _) | (with_reducible refine Kd.C_drewN ?_ _) | (with_reducible refine Kd.C_drew ?_))); (case side2 => exact (Kd.V_reads' HO_754000.out).2.1); rintro e w69 ⟨rfl, hb⟩; refine ⟨_, rfl, ?_⟩; have n0_ := Aside0.mk (Kd.V_below (by (with_reducible repeat (first | apply Kd.V_alloc | apply Kd.V_drewN | apply Kd.V_drew)); exact HO_754000.out) hb); have n1_ := Aside0.mk (blk_below (g := gb753) (o := .cells #[.slice A0_0 l0_0.length c0_0] 24 (0, 0)) (by (with_reducible repeat (first | refine blk_drewN ?_ _ | refine blk_drew ?_ | refine blk_alloc ?_ _)); exact BK753.out) hb); have n2_ := Aside0.mk (below_step (by repeat (first | (with_reducible first | exact HB.out | apply below_alloc | apply pw_below_drewN | apply below_drew1 | refine below_set ?_ GE753.out) | exact HB.out)) hb); clear HO_754000; clear BK753; clear HB; have HO_754000 := n0_; have BK753 := n1_; have HB := n2_; clear n0_ n1_ n2_; (try clear hb); (try clear hb2); (try clear hk); (try clear hi); have hcz70_0 : w69.cell? ⟨gb753, 0, none⟩ = some (.slice A0_0 l0_0.length c0_0) := (blk_cell BK753.out 0).trans rfl; have hfz70_0 := blk_frozen BK753.out 0) | ((with_reducible refine gate_callee (f := 56) rfl ?_); refine goesL_ (some 71) rfl rfl Tryd.func56 (by kernel_rfl) rfl #[.agg #[.slice A0_0 l0_0.length c0_0], .int .i64 a2] rfl (by (try simp only [List.map_toArray, List.map_cons, List.map_nil]); first | done | rfl | (simp only [List.length_drop, List.length_take]; rfl)) ?_; (with_reducible refine (snowlineref02_Enough.calls kj5 (fun k_ => ((P0_0_ k_ ∨ w.heap.size ≤ k_) ∧ k_ ≠ gb753)) _ _ l0_0 a2 t772 t773 t774 _ ?side1 A41.out).mono ?_); (case side1 => exact HO_754000.out); rintro e w71 ⟨rfl, hb⟩; refine ⟨_, rfl, ?_⟩; have n0_ := Aside0.mk (Kd.V_below (by (with_reducible repeat (first | apply Kd.V_alloc | apply Kd.V_drewN | apply Kd.V_drew)); exact HO_754000.out) hb); have n1_ := Aside0.mk (blk_below (g := gb753) (o := .cells #[.slice A0_0 l0_0.length c0_0] 24 (0, 0)) (by (with_reducible repeat (first | refine blk_drewN ?_ _ | refine blk_drew ?_ | refine blk_alloc ?_ _)); exact BK753.out) hb); have n2_ := Aside0.mk (below_step (by repeat (first | (with_reducible first | exact HB.out | apply below_alloc | apply pw_below_drewN | apply below_drew1 | refine below_set ?_ GE753.out) | exact HB.out)) hb); clear HO_754000; clear BK753; clear HB; have HO_754000 := n0_; have BK753 := n1_; have HB := n2_; clear n0_ n1_ n2_; (try clear hb); (try clear hb2); (try clear hk); (try clear hi)))
                      go_ret
                      exact ⟨by first | rfl | (simp [errW_none, errW_some] <;> rfl) | (simp [*, errW_none, errW_some] <;> rfl), by repeat (first | (with_reducible first | exact HB.out | apply below_alloc | apply pw_below_drewN | apply below_drew1 | refine below_set ?_ GE753.out) | exact HB.out)⟩
                  · rw [if_neg c46] at H
                    have c46b0 : (t769 == t772) = false := beq_eq_false_iff_ne.mpr c46
                    have c46b1 : (t769 != t772) = true := bne_iff_ne.mpr c46
                    obtain rfl := Option.some.inj H
                    have hcz72_0 : wc.cell? ⟨gb753, 0, none⟩ = some (.slice A0_0 l0_0.length c0_0) := (blk_cell BK753.out 0).trans rfl
                    have hfz72_0 := blk_frozen BK753.out 0
                    go_wp2_with (first | ((with_reducible refine gate_callee (f := 26) rfl ?_); refine goesL_ (some 41) rfl rfl Tryd.func26 (by kernel_rfl) rfl #[.agg #[.slice A0_0 l0_0.length c0_0]] rfl (by (try simp only [List.map_toArray, List.map_cons, List.map_nil]); first | done | rfl | (simp only [List.length_drop, List.length_take]; rfl)) ?_; (with_reducible refine (pack_Ready.calls kj5 _ _ l0_0 t761 t762 _ ?side1 ?side2 A36.out).mono ?_); (case side1 => repeat (first | exact (Kd.V_reads' HO_754000.out).2.2 | (with_reducible refine Kd.C_alloc ?_ _) | (with_reducible refine Kd.C_drewN ?_ _) | (with_reducible refine Kd.C_drew ?_))); (case side2 => exact (Kd.V_reads' HO_754000.out).2.1); rintro e w73 ⟨rfl, hb⟩; refine ⟨_, rfl, ?_⟩; have n0_ := Aside0.mk (Kd.V_below (by (with_reducible repeat (first | apply Kd.V_alloc | apply Kd.V_drewN | apply Kd.V_drew)); exact HO_754000.out) hb); have n1_ := Aside0.mk (blk_below (g := gb753) (o := .cells #[.slice A0_0 l0_0.length c0_0] 24 (0, 0)) (by (with_reducible repeat (first | refine blk_drewN ?_ _ | refine blk_drew ?_ | refine blk_alloc ?_ _)); exact BK753.out) hb); have n2_ := Aside0.mk (below_step (by repeat (first | (with_reducible first | exact HB.out | apply below_alloc | apply pw_below_drewN | apply below_drew1 | refine below_set ?_ GE753.out) | exact HB.out)) hb); clear HO_754000; clear BK753; clear HB; have HO_754000 := n0_; have BK753 := n1_; have HB := n2_; clear n0_ n1_ n2_; (try clear hb); (try clear hb2); (try clear hk); (try clear hi); have hcz74_0 : w73.cell? ⟨gb753, 0, none⟩ = some (.slice A0_0 l0_0.length c0_0) := (blk_cell BK753.out 0).trans rfl; have hfz74_0 := blk_frozen BK753.out 0) | ((with_reducible refine gate_callee (f := 52) rfl ?_); refine goesL_ (some 46) rfl rfl Tryd.func52 (by kernel_rfl) rfl #[.agg #[.slice A0_0 l0_0.length c0_0]] rfl (by (try simp only [List.map_toArray, List.map_cons, List.map_nil]); first | done | rfl | (simp only [List.length_drop, List.length_take]; rfl)) ?_; (with_reducible refine (snowlineref02_Ready.calls kj5 _ _ l0_0 t763 t764 _ ?side1 ?side2 A37.out).mono ?_); (case side1 => repeat (first | exact (Kd.V_reads' HO_754000.out).2.2 | (with_reducible refine Kd.C_alloc ?_ _) | (with_reducible refine Kd.C_drewN ?_ _) | (with_reducible refine Kd.C_drew ?_))); (case side2 => exact (Kd.V_reads' HO_754000.out).2.1); rintro e w75 ⟨rfl, hb⟩; refine ⟨_, rfl, ?_⟩; have n0_ := Aside0.mk (Kd.V_below (by (with_reducible repeat (first | apply Kd.V_alloc | apply Kd.V_drewN | apply Kd.V_drew)); exact HO_754000.out) hb); have n1_ := Aside0.mk (blk_below (g := gb753) (o := .cells #[.slice A0_0 l0_0.length c0_0] 24 (0, 0)) (by (with_reducible repeat (first | refine blk_drewN ?_ _ | refine blk_drew ?_ | refine blk_alloc ?_ _)); exact BK753.out) hb); have n2_ := Aside0.mk (below_step (by repeat (first | (with_reducible first | exact HB.out | apply below_alloc | apply pw_below_drewN | apply below_drew1 | refine below_set ?_ GE753.out) | exact HB.out)) hb); clear HO_754000; clear BK753; clear HB; have HO_754000 := n0_; have BK753 := n1_; have HB := n2_; clear n0_ n1_ n2_; (try clear hb); (try clear hb2); (try clear hk); (try clear hi); have hcz76_0 : w75.cell? ⟨gb753, 0, none⟩ = some (.slice A0_0 l0_0.length c0_0) := (blk_cell BK753.out 0).trans rfl; have hfz76_0 := blk_frozen BK753.out 0) | ((with_reducible refine gate_callee (f := 53) rfl ?_); refine goesL_ (some 52) rfl rfl Tryd.func53 (by kernel_rfl) rfl #[.agg #[.slice A0_0 l0_0.length c0_0], .int .i64 a1] rfl (by (try simp only [List.map_toArray, List.map_cons, List.map_nil]); first | done | rfl | (simp only [List.length_drop, List.length_take]; rfl)) ?_; (with_reducible refine (pack_Yield.calls _ _ l0_0 a1 t765 t766 _ ?side1 ?side2 A38.out).mono ?_); (case side1 => repeat (first | exact (Kd.V_reads' HO_754000.out).2.2 | (with_reducible refine Kd.C_alloc ?_ _) | (with_reducible refine Kd.C_drewN ?_ _) | (with_reducible refine Kd.C_drew ?_))); (case side2 => exact (Kd.V_reads' HO_754000.out).2.1); rintro e w77 ⟨rfl, hb⟩; refine ⟨_, rfl, ?_⟩; have n0_ := Aside0.mk (Kd.V_below (by (with_reducible repeat (first | apply Kd.V_alloc | apply Kd.V_drewN | apply Kd.V_drew)); exact HO_754000.out) hb); have n1_ := Aside0.mk (blk_below (g := gb753) (o := .cells #[.slice A0_0 l0_0.length c0_0] 24 (0, 0)) (by (with_reducible repeat (first | refine blk_drewN ?_ _ | refine blk_drew ?_ | refine blk_alloc ?_ _)); exact BK753.out) hb); have n2_ := Aside0.mk (below_step (by repeat (first | (with_reducible first | exact HB.out | apply below_alloc | apply pw_below_drewN | apply below_drew1 | refine below_set ?_ GE753.out) | exact HB.out)) hb); clear HO_754000; clear BK753; clear HB; have HO_754000 := n0_; have BK753 := n1_; have HB := n2_; clear n0_ n1_ n2_; (try clear hb); (try clear hb2); (try clear hk); (try clear hi); have hcz78_0 : w77.cell? ⟨gb753, 0, none⟩ = some (.slice A0_0 l0_0.length c0_0) := (blk_cell BK753.out 0).trans rfl; have hfz78_0 := blk_frozen BK753.out 0) | ((with_reducible refine gate_callee (f := 54) rfl ?_); refine goesL_ (some 58) rfl rfl Tryd.func54 (by kernel_rfl) rfl #[.agg #[.slice A0_0 l0_0.length c0_0], .int .i64 a1] rfl (by (try simp only [List.map_toArray, List.map_cons, List.map_nil]); first | done | rfl | (simp only [List.length_drop, List.length_take]; rfl)) ?_; (with_reducible refine (snowlineref02_Yield.calls kj5 _ _ l0_0 a1 t767 t768 _ ?side1 ?side2 A39.out).mono ?_); (case side1 => repeat (first | exact (Kd.V_reads' HO_754000.out).2.2 | (with_reducible refine Kd.C_alloc ?_ _) | (with_reducible refine Kd.C_drewN ?_ _) | (with_reducible refine Kd.C_drew ?_))); (case side2 => exact (Kd.V_reads' HO_754000.out).2.1); rintro e w79 ⟨rfl, hb⟩; refine ⟨_, rfl, ?_⟩; have n0_ := Aside0.mk (Kd.V_below (by (with_reducible repeat (first | apply Kd.V_alloc | apply Kd.V_drewN | apply Kd.V_drew)); exact HO_754000.out) hb); have n1_ := Aside0.mk (blk_below (g := gb753) (o := .cells #[.slice A0_0 l0_0.length c0_0] 24 (0, 0)) (by (with_reducible repeat (first | refine blk_drewN ?_ _ | refine blk_drew ?_ | refine blk_alloc ?_ _)); exact BK753.out) hb); have n2_ := Aside0.mk (below_step (by repeat (first | (with_reducible first | exact HB.out | apply below_alloc | apply pw_below_drewN | apply below_drew1 | refine below_set ?_ GE753.out) | exact HB.out)) hb); clear HO_754000; clear BK753; clear HB; have HO_754000 := n0_; have BK753 := n1_; have HB := n2_; clear n0_ n1_ n2_; (try clear hb); (try clear hb2); (try clear hk); (try clear hi); have hcz80_0 : w79.cell? ⟨gb753, 0, none⟩ = some (.slice A0_0 l0_0.length c0_0) := (blk_cell BK753.out 0).trans rfl; have hfz80_0 := blk_frozen BK753.out 0) | ((with_reducible refine gate_callee (f := 55) rfl ?_); refine goesL_ (some 64) rfl rfl Tryd.func55 (by kernel_rfl) rfl #[.agg #[.slice A0_0 l0_0.length c0_0], .int .i64 a2] rfl (by (try simp only [List.map_toArray, List.map_cons, List.map_nil]); first | done | rfl | (simp only [List.length_drop, List.length_take]; rfl)) ?_; (with_reducible refine (pack_Enough.calls _ _ l0_0 a2 t769 t770 t771 _ ?side1 ?side2 A40.out).mono ?_); (case side1 => repeat (first | exact (Kd.V_reads' HO_754000.out).2.2 | (with_reducible refine Kd.C_alloc ?_ _) | (with_reducible refine Kd.C_drewN ?_ _) | (with_reducible refine Kd.C_drew ?_))); (case side2 => exact (Kd.V_reads' HO_754000.out).2.1); rintro e w81 ⟨rfl, hb⟩; refine ⟨_, rfl, ?_⟩; have n0_ := Aside0.mk (Kd.V_below (by (with_reducible repeat (first | apply Kd.V_alloc | apply Kd.V_drewN | apply Kd.V_drew)); exact HO_754000.out) hb); have n1_ := Aside0.mk (blk_below (g := gb753) (o := .cells #[.slice A0_0 l0_0.length c0_0] 24 (0, 0)) (by (with_reducible repeat (first | refine blk_drewN ?_ _ | refine blk_drew ?_ | refine blk_alloc ?_ _)); exact BK753.out) hb); have n2_ := Aside0.mk (below_step (by repeat (first | (with_reducible first | exact HB.out | apply below_alloc | apply pw_below_drewN | apply below_drew1 | refine below_set ?_ GE753.out) | exact HB.out)) hb); clear HO_754000; clear BK753; clear HB; have HO_754000 := n0_; have BK753 := n1_; have HB := n2_; clear n0_ n1_ n2_; (try clear hb); (try clear hb2); (try clear hk); (try clear hi); have hcz82_0 : w81.cell? ⟨gb753, 0, none⟩ = some (.slice A0_0 l0_0.length c0_0) := (blk_cell BK753.out 0).trans rfl; have hfz82_0 := blk_frozen BK753.out 0) | ((with_reducible refine gate_callee (f := 56) rfl ?_); refine goesL_ (some 71) rfl rfl Tryd.func56 (by kernel_rfl) rfl #[.agg #[.slice A0_0 l0_0.length c0_0], .int .i64 a2] rfl (by (try simp only [List.map_toArray, List.map_cons, List.map_nil]); first | done | rfl | (simp only [List.length_drop, List.length_take]; rfl)) ?_; (with_reducible refine (snowlineref02_Enough.calls kj5 (fun k_ => ((P0_0_ k_ ∨ w.heap.size ≤ k_) ∧ k_ ≠ gb753)) _ _ l0_0 a2 t772 t773 t774 _ ?side1 A41.out).mono ?_); (case side1 => exact HO_754000.out); rintro e w83 ⟨rfl, hb⟩; refine ⟨_, rfl, ?_⟩; have n0_ := Aside0.mk (Kd.V_below (by (with_reducible repeat (first | apply Kd.V_alloc | apply Kd.V_drewN | apply Kd.V_drew)); exact HO_754000.out) hb); have n1_ := Aside0.mk (blk_below (g := gb753) (o := .cells #[.slice A0_0 l0_0.length c0_0] 24 (0, 0)) (by (with_reducible repeat (first | refine blk_drewN ?_ _ | refine blk_drew ?_ | refine blk_alloc ?_ _)); exact BK753.out) hb); have n2_ := Aside0.mk (below_step (by repeat (first | (with_reducible first | exact HB.out | apply below_alloc | apply pw_below_drewN | apply below_drew1 | refine below_set ?_ GE753.out) | exact HB.out)) hb); clear HO_754000; clear BK753; clear HB; have HO_754000 := n0_; have BK753 := n1_; have HB := n2_; clear n0_ n1_ n2_; (try clear hb); (try clear hb2); (try clear hk); (try clear hi)))
                    go_ret
                    exact ⟨by first | rfl | (simp [errW_none, errW_some] <;> rfl) | (simp [*, errW_none, errW_some] <;> rfl), by repeat (first | (with_reducible first | exact HB.out | apply below_alloc | apply pw_below_drewN | apply below_drew1 | refine below_set ?_ GE753.out) | exact HB.out)⟩
                · rw [if_neg c45] at H
                  have c45b0 : (t766 == t768) = false := beq_eq_false_iff_ne.mpr c45
                  have c45b1 : (t766 != t768) = true := bne_iff_ne.mpr c45
                  obtain rfl := Option.some.inj H
                  have hcz84_0 : wc.cell? ⟨gb753, 0, none⟩ = some (.slice A0_0 l0_0.length c0_0) := (blk_cell BK753.out 0).trans rfl
                  have hfz84_0 := blk_frozen BK753.out 0
                  go_wp2_with (first | ((with_reducible refine gate_callee (f := 26) rfl ?_); refine goesL_ (some 41) rfl rfl Tryd.func26 (by kernel_rfl) rfl #[.agg #[.slice A0_0 l0_0.length c0_0]] rfl (by (try simp only [List.map_toArray, List.map_cons, List.map_nil]); first | done | rfl | (simp only [List.length_drop, List.length_take]; rfl)) ?_; (with_reducible refine (pack_Ready.calls kj5 _ _ l0_0 t761 t762 _ ?side1 ?side2 A36.out).mono ?_); (case side1 => repeat (first | exact (Kd.V_reads' HO_754000.out).2.2 | (with_reducible refine Kd.C_alloc ?_ _) | (with_reducible refine Kd.C_drewN ?_ _) | (with_reducible refine Kd.C_drew ?_))); (case side2 => exact (Kd.V_reads' HO_754000.out).2.1); rintro e w85 ⟨rfl, hb⟩; refine ⟨_, rfl, ?_⟩; have n0_ := Aside0.mk (Kd.V_below (by (with_reducible repeat (first | apply Kd.V_alloc | apply Kd.V_drewN | apply Kd.V_drew)); exact HO_754000.out) hb); have n1_ := Aside0.mk (blk_below (g := gb753) (o := .cells #[.slice A0_0 l0_0.length c0_0] 24 (0, 0)) (by (with_reducible repeat (first | refine blk_drewN ?_ _ | refine blk_drew ?_ | refine blk_alloc ?_ _)); exact BK753.out) hb); have n2_ := Aside0.mk (below_step (by repeat (first | (with_reducible first | exact HB.out | apply below_alloc | apply pw_below_drewN | apply below_drew1 | refine below_set ?_ GE753.out) | exact HB.out)) hb); clear HO_754000; clear BK753; clear HB; have HO_754000 := n0_; have BK753 := n1_; have HB := n2_; clear n0_ n1_ n2_; (try clear hb); (try clear hb2); (try clear hk); (try clear hi); have hcz86_0 : w85.cell? ⟨gb753, 0, none⟩ = some (.slice A0_0 l0_0.length c0_0) := (blk_cell BK753.out 0).trans rfl; have hfz86_0 := blk_frozen BK753.out 0) | ((with_reducible refine gate_callee (f := 52) rfl ?_); refine goesL_ (some 46) rfl rfl Tryd.func52 (by kernel_rfl) rfl #[.agg #[.slice A0_0 l0_0.length c0_0]] rfl (by (try simp only [List.map_toArray, List.map_cons, List.map_nil]); first | done | rfl | (simp only [List.length_drop, List.length_take]; rfl)) ?_; (with_reducible refine (snowlineref02_Ready.calls kj5 _ _ l0_0 t763 t764 _ ?side1 ?side2 A37.out).mono ?_); (case side1 => repeat (first | exact (Kd.V_reads' HO_754000.out).2.2 | (with_reducible refine Kd.C_alloc ?_ _) | (with_reducible refine Kd.C_drewN ?_ _) | (with_reducible refine Kd.C_drew ?_))); (case side2 => exact (Kd.V_reads' HO_754000.out).2.1); rintro e w87 ⟨rfl, hb⟩; refine ⟨_, rfl, ?_⟩; have n0_ := Aside0.mk (Kd.V_below (by (with_reducible repeat (first | apply Kd.V_alloc | apply Kd.V_drewN | apply Kd.V_drew)); exact HO_754000.out) hb); have n1_ := Aside0.mk (blk_below (g := gb753) (o := .cells #[.slice A0_0 l0_0.length c0_0] 24 (0, 0)) (by (with_reducible repeat (first | refine blk_drewN ?_ _ | refine blk_drew ?_ | refine blk_alloc ?_ _)); exact BK753.out) hb); have n2_ := Aside0.mk (below_step (by repeat (first | (with_reducible first | exact HB.out | apply below_alloc | apply pw_below_drewN | apply below_drew1 | refine below_set ?_ GE753.out) | exact HB.out)) hb); clear HO_754000; clear BK753; clear HB; have HO_754000 := n0_; have BK753 := n1_; have HB := n2_; clear n0_ n1_ n2_; (try clear hb); (try clear hb2); (try clear hk); (try clear hi); have hcz88_0 : w87.cell? ⟨gb753, 0, none⟩ = some (.slice A0_0 l0_0.length c0_0) := (blk_cell BK753.out 0).trans rfl; have hfz88_0 := blk_frozen BK753.out 0) | ((with_reducible refine gate_callee (f := 53) rfl ?_); refine goesL_ (some 52) rfl rfl Tryd.func53 (by kernel_rfl) rfl #[.agg #[.slice A0_0 l0_0.length c0_0], .int .i64 a1] rfl (by (try simp only [List.map_toArray, List.map_cons, List.map_nil]); first | done | rfl | (simp only [List.length_drop, List.length_take]; rfl)) ?_; (with_reducible refine (pack_Yield.calls _ _ l0_0 a1 t765 t766 _ ?side1 ?side2 A38.out).mono ?_); (case side1 => repeat (first | exact (Kd.V_reads' HO_754000.out).2.2 | (with_reducible refine Kd.C_alloc ?_ _) | (with_reducible refine Kd.C_drewN ?_ _) | (with_reducible refine Kd.C_drew ?_))); (case side2 => exact (Kd.V_reads' HO_754000.out).2.1); rintro e w89 ⟨rfl, hb⟩; refine ⟨_, rfl, ?_⟩; have n0_ := Aside0.mk (Kd.V_below (by (with_reducible repeat (first | apply Kd.V_alloc | apply Kd.V_drewN | apply Kd.V_drew)); exact HO_754000.out) hb); have n1_ := Aside0.mk (blk_below (g := gb753) (o := .cells #[.slice A0_0 l0_0.length c0_0] 24 (0, 0)) (by (with_reducible repeat (first | refine blk_drewN ?_ _ | refine blk_drew ?_ | refine blk_alloc ?_ _)); exact BK753.out) hb); have n2_ := Aside0.mk (below_step (by repeat (first | (with_reducible first | exact HB.out | apply below_alloc | apply pw_below_drewN | apply below_drew1 | refine below_set ?_ GE753.out) | exact HB.out)) hb); clear HO_754000; clear BK753; clear HB; have HO_754000 := n0_; have BK753 := n1_; have HB := n2_; clear n0_ n1_ n2_; (try clear hb); (try clear hb2); (try clear hk); (try clear hi); have hcz90_0 : w89.cell? ⟨gb753, 0, none⟩ = some (.slice A0_0 l0_0.length c0_0) := (blk_cell BK753.out 0).trans rfl; have hfz90_0 := blk_frozen BK753.out 0) | ((with_reducible refine gate_callee (f := 54) rfl ?_); refine goesL_ (some 58) rfl rfl Tryd.func54 (by kernel_rfl) rfl #[.agg #[.slice A0_0 l0_0.length c0_0], .int .i64 a1] rfl (by (try simp only [List.map_toArray, List.map_cons, List.map_nil]); first | done | rfl | (simp only [List.length_drop, List.length_take]; rfl)) ?_; (with_reducible refine (snowlineref02_Yield.calls kj5 _ _ l0_0 a1 t767 t768 _ ?side1 ?side2 A39.out).mono ?_); (case side1 => repeat (first | exact (Kd.V_reads' HO_754000.out).2.2 | (with_reducible refine Kd.C_alloc ?_ _) | (with_reducible refine Kd.C_drewN ?_ _) | (with_reducible refine Kd.C_drew ?_))); (case side2 => exact (Kd.V_reads' HO_754000.out).2.1); rintro e w91 ⟨rfl, hb⟩; refine ⟨_, rfl, ?_⟩; have n0_ := Aside0.mk (Kd.V_below (by (with_reducible repeat (first | apply Kd.V_alloc | apply Kd.V_drewN | apply Kd.V_drew)); exact HO_754000.out) hb); have n1_ := Aside0.mk (blk_below (g := gb753) (o := .cells #[.slice A0_0 l0_0.length c0_0] 24 (0, 0)) (by (with_reducible repeat (first | refine blk_drewN ?_ _ | refine blk_drew ?_ | refine blk_alloc ?_ _)); exact BK753.out) hb); have n2_ := Aside0.mk (below_step (by repeat (first | (with_reducible first | exact HB.out | apply below_alloc | apply pw_below_drewN | apply below_drew1 | refine below_set ?_ GE753.out) | exact HB.out)) hb); clear HO_754000; clear BK753; clear HB; have HO_754000 := n0_; have BK753 := n1_; have HB := n2_; clear n0_ n1_ n2_; (try clear hb); (try clear hb2); (try clear hk); (try clear hi); have hcz92_0 : w91.cell? ⟨gb753, 0, none⟩ = some (.slice A0_0 l0_0.length c0_0) := (blk_cell BK753.out 0).trans rfl; have hfz92_0 := blk_frozen BK753.out 0) | ((with_reducible refine gate_callee (f := 55) rfl ?_); refine goesL_ (some 64) rfl rfl Tryd.func55 (by kernel_rfl) rfl #[.agg #[.slice A0_0 l0_0.length c0_0], .int .i64 a2] rfl (by (try simp only [List.map_toArray, List.map_cons, List.map_nil]); first | done | rfl | (simp only [List.length_drop, List.length_take]; rfl)) ?_; (with_reducible refine (pack_Enough.calls _ _ l0_0 a2 t769 t770 t771 _ ?side1 ?side2 A40.out).mono ?_); (case side1 => repeat (first | exact (Kd.V_reads' HO_754000.out).2.2 | (with_reducible refine Kd.C_alloc ?_ _) | (with_reducible refine Kd.C_drewN ?_ _) | (with_reducible refine Kd.C_drew ?_))); (case side2 => exact (Kd.V_reads' HO_754000.out).2.1); rintro e w93 ⟨rfl, hb⟩; refine ⟨_, rfl, ?_⟩; have n0_ := Aside0.mk (Kd.V_below (by (with_reducible repeat (first | apply Kd.V_alloc | apply Kd.V_drewN | apply Kd.V_drew)); exact HO_754000.out) hb); have n1_ := Aside0.mk (blk_below (g := gb753) (o := .cells #[.slice A0_0 l0_0.length c0_0] 24 (0, 0)) (by (with_reducible repeat (first | refine blk_drewN ?_ _ | refine blk_drew ?_ | refine blk_alloc ?_ _)); exact BK753.out) hb); have n2_ := Aside0.mk (below_step (by repeat (first | (with_reducible first | exact HB.out | apply below_alloc | apply pw_below_drewN | apply below_drew1 | refine below_set ?_ GE753.out) | exact HB.out)) hb); clear HO_754000; clear BK753; clear HB; have HO_754000 := n0_; have BK753 := n1_; have HB := n2_; clear n0_ n1_ n2_; (try clear hb); (try clear hb2); (try clear hk); (try clear hi); have hcz94_0 : w93.cell? ⟨gb753, 0, none⟩ = some (.slice A0_0 l0_0.length c0_0) := (blk_cell BK753.out 0).trans rfl; have hfz94_0 := blk_frozen BK753.out 0) | ((with_reducible refine gate_callee (f := 56) rfl ?_); refine goesL_ (some 71) rfl rfl Tryd.func56 (by kernel_rfl) rfl #[.agg #[.slice A0_0 l0_0.length c0_0], .int .i64 a2] rfl (by (try simp only [List.map_toArray, List.map_cons, List.map_nil]); first | done | rfl | (simp only [List.length_drop, List.length_take]; rfl)) ?_; (with_reducible refine (snowlineref02_Enough.calls kj5 (fun k_ => ((P0_0_ k_ ∨ w.heap.size ≤ k_) ∧ k_ ≠ gb753)) _ _ l0_0 a2 t772 t773 t774 _ ?side1 A41.out).mono ?_); (case side1 => exact HO_754000.out); rintro e w95 ⟨rfl, hb⟩; refine ⟨_, rfl, ?_⟩; have n0_ := Aside0.mk (Kd.V_below (by (with_reducible repeat (first | apply Kd.V_alloc | apply Kd.V_drewN | apply Kd.V_drew)); exact HO_754000.out) hb); have n1_ := Aside0.mk (blk_below (g := gb753) (o := .cells #[.slice A0_0 l0_0.length c0_0] 24 (0, 0)) (by (with_reducible repeat (first | refine blk_drewN ?_ _ | refine blk_drew ?_ | refine blk_alloc ?_ _)); exact BK753.out) hb); have n2_ := Aside0.mk (below_step (by repeat (first | (with_reducible first | exact HB.out | apply below_alloc | apply pw_below_drewN | apply below_drew1 | refine below_set ?_ GE753.out) | exact HB.out)) hb); clear HO_754000; clear BK753; clear HB; have HO_754000 := n0_; have BK753 := n1_; have HB := n2_; clear n0_ n1_ n2_; (try clear hb); (try clear hb2); (try clear hk); (try clear hi)))
                  go_ret
                  exact ⟨by first | rfl | (simp [errW_none, errW_some] <;> rfl) | (simp [*, errW_none, errW_some] <;> rfl), by repeat (first | (with_reducible first | exact HB.out | apply below_alloc | apply pw_below_drewN | apply below_drew1 | refine below_set ?_ GE753.out) | exact HB.out)⟩
              · rw [if_neg c44] at H
                have c44b0 : (t765 == t767) = false := beq_eq_false_iff_ne.mpr c44
                have c44b1 : (t765 != t767) = true := bne_iff_ne.mpr c44
                obtain rfl := Option.some.inj H
                have hcz96_0 : wc.cell? ⟨gb753, 0, none⟩ = some (.slice A0_0 l0_0.length c0_0) := (blk_cell BK753.out 0).trans rfl
                have hfz96_0 := blk_frozen BK753.out 0
                go_wp2_with (first | ((with_reducible refine gate_callee (f := 26) rfl ?_); refine goesL_ (some 41) rfl rfl Tryd.func26 (by kernel_rfl) rfl #[.agg #[.slice A0_0 l0_0.length c0_0]] rfl (by (try simp only [List.map_toArray, List.map_cons, List.map_nil]); first | done | rfl | (simp only [List.length_drop, List.length_take]; rfl)) ?_; (with_reducible refine (pack_Ready.calls kj5 _ _ l0_0 t761 t762 _ ?side1 ?side2 A36.out).mono ?_); (case side1 => repeat (first | exact (Kd.V_reads' HO_754000.out).2.2 | (with_reducible refine Kd.C_alloc ?_ _) | (with_reducible refine Kd.C_drewN ?_ _) | (with_reducible refine Kd.C_drew ?_))); (case side2 => exact (Kd.V_reads' HO_754000.out).2.1); rintro e w97 ⟨rfl, hb⟩; refine ⟨_, rfl, ?_⟩; have n0_ := Aside0.mk (Kd.V_below (by (with_reducible repeat (first | apply Kd.V_alloc | apply Kd.V_drewN | apply Kd.V_drew)); exact HO_754000.out) hb); have n1_ := Aside0.mk (blk_below (g := gb753) (o := .cells #[.slice A0_0 l0_0.length c0_0] 24 (0, 0)) (by (with_reducible repeat (first | refine blk_drewN ?_ _ | refine blk_drew ?_ | refine blk_alloc ?_ _)); exact BK753.out) hb); have n2_ := Aside0.mk (below_step (by repeat (first | (with_reducible first | exact HB.out | apply below_alloc | apply pw_below_drewN | apply below_drew1 | refine below_set ?_ GE753.out) | exact HB.out)) hb); clear HO_754000; clear BK753; clear HB; have HO_754000 := n0_; have BK753 := n1_; have HB := n2_; clear n0_ n1_ n2_; (try clear hb); (try clear hb2); (try clear hk); (try clear hi); have hcz98_0 : w97.cell? ⟨gb753, 0, none⟩ = some (.slice A0_0 l0_0.length c0_0) := (blk_cell BK753.out 0).trans rfl; have hfz98_0 := blk_frozen BK753.out 0) | ((with_reducible refine gate_callee (f := 52) rfl ?_); refine goesL_ (some 46) rfl rfl Tryd.func52 (by kernel_rfl) rfl #[.agg #[.slice A0_0 l0_0.length c0_0]] rfl (by (try simp only [List.map_toArray, List.map_cons, List.map_nil]); first | done | rfl | (simp only [List.length_drop, List.length_take]; rfl)) ?_; (with_reducible refine (snowlineref02_Ready.calls kj5 _ _ l0_0 t763 t764 _ ?side1 ?side2 A37.out).mono ?_); (case side1 => repeat (first | exact (Kd.V_reads' HO_754000.out).2.2 | (with_reducible refine Kd.C_alloc ?_ _) | (with_reducible refine Kd.C_drewN ?_ _) | (with_reducible refine Kd.C_drew ?_))); (case side2 => exact (Kd.V_reads' HO_754000.out).2.1); rintro e w99 ⟨rfl, hb⟩; refine ⟨_, rfl, ?_⟩; have n0_ := Aside0.mk (Kd.V_below (by (with_reducible repeat (first | apply Kd.V_alloc | apply Kd.V_drewN | apply Kd.V_drew)); exact HO_754000.out) hb); have n1_ := Aside0.mk (blk_below (g := gb753) (o := .cells #[.slice A0_0 l0_0.length c0_0] 24 (0, 0)) (by (with_reducible repeat (first | refine blk_drewN ?_ _ | refine blk_drew ?_ | refine blk_alloc ?_ _)); exact BK753.out) hb); have n2_ := Aside0.mk (below_step (by repeat (first | (with_reducible first | exact HB.out | apply below_alloc | apply pw_below_drewN | apply below_drew1 | refine below_set ?_ GE753.out) | exact HB.out)) hb); clear HO_754000; clear BK753; clear HB; have HO_754000 := n0_; have BK753 := n1_; have HB := n2_; clear n0_ n1_ n2_; (try clear hb); (try clear hb2); (try clear hk); (try clear hi); have hcz100_0 : w99.cell? ⟨gb753, 0, none⟩ = some (.slice A0_0 l0_0.length c0_0) := (blk_cell BK753.out 0).trans rfl; have hfz100_0 := blk_frozen BK753.out 0) | ((with_reducible refine gate_callee (f := 53) rfl ?_); refine goesL_ (some 52) rfl rfl Tryd.func53 (by kernel_rfl) rfl #[.agg #[.slice A0_0 l0_0.length c0_0], .int .i64 a1] rfl (by (try simp only [List.map_toArray, List.map_cons, List.map_nil]); first | done | rfl | (simp only [List.length_drop, List.length_take]; rfl)) ?_; (with_reducible refine (pack_Yield.calls _ _ l0_0 a1 t765 t766 _ ?side1 ?side2 A38.out).mono ?_); (case side1 => repeat (first | exact (Kd.V_reads' HO_754000.out).2.2 | (with_reducible refine Kd.C_alloc ?_ _) | (with_reducible refine Kd.C_drewN ?_ _) | (with_reducible refine Kd.C_drew ?_))); (case side2 => exact (Kd.V_reads' HO_754000.out).2.1); rintro e w101 ⟨rfl, hb⟩; refine ⟨_, rfl, ?_⟩; have n0_ := Aside0.mk (Kd.V_below (by (with_reducible repeat (first | apply Kd.V_alloc | apply Kd.V_drewN | apply Kd.V_drew)); exact HO_754000.out) hb); have n1_ := Aside0.mk (blk_below (g := gb753) (o := .cells #[.slice A0_0 l0_0.length c0_0] 24 (0, 0)) (by (with_reducible repeat (first | refine blk_drewN ?_ _ | refine blk_drew ?_ | refine blk_alloc ?_ _)); exact BK753.out) hb); have n2_ := Aside0.mk (below_step (by repeat (first | (with_reducible first | exact HB.out | apply below_alloc | apply pw_below_drewN | apply below_drew1 | refine below_set ?_ GE753.out) | exact HB.out)) hb); clear HO_754000; clear BK753; clear HB; have HO_754000 := n0_; have BK753 := n1_; have HB := n2_; clear n0_ n1_ n2_; (try clear hb); (try clear hb2); (try clear hk); (try clear hi); have hcz102_0 : w101.cell? ⟨gb753, 0, none⟩ = some (.slice A0_0 l0_0.length c0_0) := (blk_cell BK753.out 0).trans rfl; have hfz102_0 := blk_frozen BK753.out 0) | ((with_reducible refine gate_callee (f := 54) rfl ?_); refine goesL_ (some 58) rfl rfl Tryd.func54 (by kernel_rfl) rfl #[.agg #[.slice A0_0 l0_0.length c0_0], .int .i64 a1] rfl (by (try simp only [List.map_toArray, List.map_cons, List.map_nil]); first | done | rfl | (simp only [List.length_drop, List.length_take]; rfl)) ?_; (with_reducible refine (snowlineref02_Yield.calls kj5 _ _ l0_0 a1 t767 t768 _ ?side1 ?side2 A39.out).mono ?_); (case side1 => repeat (first | exact (Kd.V_reads' HO_754000.out).2.2 | (with_reducible refine Kd.C_alloc ?_ _) | (with_reducible refine Kd.C_drewN ?_ _) | (with_reducible refine Kd.C_drew ?_))); (case side2 => exact (Kd.V_reads' HO_754000.out).2.1); rintro e w103 ⟨rfl, hb⟩; refine ⟨_, rfl, ?_⟩; have n0_ := Aside0.mk (Kd.V_below (by (with_reducible repeat (first | apply Kd.V_alloc | apply Kd.V_drewN | apply Kd.V_drew)); exact HO_754000.out) hb); have n1_ := Aside0.mk (blk_below (g := gb753) (o := .cells #[.slice A0_0 l0_0.length c0_0] 24 (0, 0)) (by (with_reducible repeat (first | refine blk_drewN ?_ _ | refine blk_drew ?_ | refine blk_alloc ?_ _)); exact BK753.out) hb); have n2_ := Aside0.mk (below_step (by repeat (first | (with_reducible first | exact HB.out | apply below_alloc | apply pw_below_drewN | apply below_drew1 | refine below_set ?_ GE753.out) | exact HB.out)) hb); clear HO_754000; clear BK753; clear HB; have HO_754000 := n0_; have BK753 := n1_; have HB := n2_; clear n0_ n1_ n2_; (try clear hb); (try clear hb2); (try clear hk); (try clear hi); have hcz104_0 : w103.cell? ⟨gb753, 0, none⟩ = some (.slice A0_0 l0_0.length c0_0) := (blk_cell BK753.out 0).trans rfl; have hfz104_0 := blk_frozen BK753.out 0) | ((with_reducible refine gate_callee (f := 55) rfl ?_); refine goesL_ (some 64) rfl rfl Tryd.func55 (by kernel_rfl) rfl #[.agg #[.slice A0_0 l0_0.length c0_0], .int .i64 a2] rfl (by (try simp only [List.map_toArray, List.map_cons, List.map_nil]); first | done | rfl | (simp only [List.length_drop, List.length_take]; rfl)) ?_; (with_reducible refine (pack_Enough.calls _ _ l0_0 a2 t769 t770 t771 _ ?side1 ?side2 A40.out).mono ?_); (case side1 => repeat (first | exact (Kd.V_reads' HO_754000.out).2.2 | (with_reducible refine Kd.C_alloc ?_ _) | (with_reducible refine Kd.C_drewN ?_ _) | (with_reducible refine Kd.C_drew ?_))); (case side2 => exact (Kd.V_reads' HO_754000.out).2.1); rintro e w105 ⟨rfl, hb⟩; refine ⟨_, rfl, ?_⟩; have n0_ := Aside0.mk (Kd.V_below (by (with_reducible repeat (first | apply Kd.V_alloc | apply Kd.V_drewN | apply Kd.V_drew)); exact HO_754000.out) hb); have n1_ := Aside0.mk (blk_below (g := gb753) (o := .cells #[.slice A0_0 l0_0.length c0_0] 24 (0, 0)) (by (with_reducible repeat (first | refine blk_drewN ?_ _ | refine blk_drew ?_ | refine blk_alloc ?_ _)); exact BK753.out) hb); have n2_ := Aside0.mk (below_step (by repeat (first | (with_reducible first | exact HB.out | apply below_alloc | apply pw_below_drewN | apply below_drew1 | refine below_set ?_ GE753.out) | exact HB.out)) hb); clear HO_754000; clear BK753; clear HB; have HO_754000 := n0_; have BK753 := n1_; have HB := n2_; clear n0_ n1_ n2_; (try clear hb); (try clear hb2); (try clear hk); (try clear hi); have hcz106_0 : w105.cell? ⟨gb753, 0, none⟩ = some (.slice A0_0 l0_0.length c0_0) := (blk_cell BK753.out 0).trans rfl; have hfz106_0 := blk_frozen BK753.out 0) | ((with_reducible refine gate_callee (f := 56) rfl ?_); refine goesL_ (some 71) rfl rfl Tryd.func56 (by kernel_rfl) rfl #[.agg #[.slice A0_0 l0_0.length c0_0], .int .i64 a2] rfl (by (try simp only [List.map_toArray, List.map_cons, List.map_nil]); first | done | rfl | (simp only [List.length_drop, List.length_take]; rfl)) ?_; (with_reducible refine (snowlineref02_Enough.calls kj5 (fun k_ => ((P0_0_ k_ ∨ w.heap.size ≤ k_) ∧ k_ ≠ gb753)) _ _ l0_0 a2 t772 t773 t774 _ ?side1 A41.out).mono ?_); (case side1 => exact HO_754000.out); rintro e w107 ⟨rfl, hb⟩; refine ⟨_, rfl, ?_⟩; have n0_ := Aside0.mk (Kd.V_below (by (with_reducible repeat (first | apply Kd.V_alloc | apply Kd.V_drewN | apply Kd.V_drew)); exact HO_754000.out) hb); have n1_ := Aside0.mk (blk_below (g := gb753) (o := .cells #[.slice A0_0 l0_0.length c0_0] 24 (0, 0)) (by (with_reducible repeat (first | refine blk_drewN ?_ _ | refine blk_drew ?_ | refine blk_alloc ?_ _)); exact BK753.out) hb); have n2_ := Aside0.mk (below_step (by repeat (first | (with_reducible first | exact HB.out | apply below_alloc | apply pw_below_drewN | apply below_drew1 | refine below_set ?_ GE753.out) | exact HB.out)) hb); clear HO_754000; clear BK753; clear HB; have HO_754000 := n0_; have BK753 := n1_; have HB := n2_; clear n0_ n1_ n2_; (try clear hb); (try clear hb2); (try clear hk); (try clear hi)))
                go_ret
                exact ⟨by first | rfl | (simp [errW_none, errW_some] <;> rfl) | (simp [*, errW_none, errW_some] <;> rfl), by repeat (first | (with_reducible first | exact HB.out | apply below_alloc | apply pw_below_drewN | apply below_drew1 | refine below_set ?_ GE753.out) | exact HB.out)⟩
            · rw [if_neg c43] at H
              have c43b0 : (t762 == t764) = false := beq_eq_false_iff_ne.mpr c43
              have c43b1 : (t762 != t764) = true := bne_iff_ne.mpr c43
              obtain rfl := Option.some.inj H
              have hcz108_0 : wc.cell? ⟨gb753, 0, none⟩ = some (.slice A0_0 l0_0.length c0_0) := (blk_cell BK753.out 0).trans rfl
              have hfz108_0 := blk_frozen BK753.out 0
              go_wp2_with (first | ((with_reducible refine gate_callee (f := 26) rfl ?_); refine goesL_ (some 41) rfl rfl Tryd.func26 (by kernel_rfl) rfl #[.agg #[.slice A0_0 l0_0.length c0_0]] rfl (by (try simp only [List.map_toArray, List.map_cons, List.map_nil]); first | done | rfl | (simp only [List.length_drop, List.length_take]; rfl)) ?_; (with_reducible refine (pack_Ready.calls kj5 _ _ l0_0 t761 t762 _ ?side1 ?side2 A36.out).mono ?_); (case side1 => repeat (first | exact (Kd.V_reads' HO_754000.out).2.2 | (with_reducible refine Kd.C_alloc ?_ _) | (with_reducible refine Kd.C_drewN ?_ _) | (with_reducible refine Kd.C_drew ?_))); (case side2 => exact (Kd.V_reads' HO_754000.out).2.1); rintro e w109 ⟨rfl, hb⟩; refine ⟨_, rfl, ?_⟩; have n0_ := Aside0.mk (Kd.V_below (by (with_reducible repeat (first | apply Kd.V_alloc | apply Kd.V_drewN | apply Kd.V_drew)); exact HO_754000.out) hb); have n1_ := Aside0.mk (blk_below (g := gb753) (o := .cells #[.slice A0_0 l0_0.length c0_0] 24 (0, 0)) (by (with_reducible repeat (first | refine blk_drewN ?_ _ | refine blk_drew ?_ | refine blk_alloc ?_ _)); exact BK753.out) hb); have n2_ := Aside0.mk (below_step (by repeat (first | (with_reducible first | exact HB.out | apply below_alloc | apply pw_below_drewN | apply below_drew1 | refine below_set ?_ GE753.out) | exact HB.out)) hb); clear HO_754000; clear BK753; clear HB; have HO_754000 := n0_; have BK753 := n1_; have HB := n2_; clear n0_ n1_ n2_; (try clear hb); (try clear hb2); (try clear hk); (try clear hi); have hcz110_0 : w109.cell? ⟨gb753, 0, none⟩ = some (.slice A0_0 l0_0.length c0_0) := (blk_cell BK753.out 0).trans rfl; have hfz110_0 := blk_frozen BK753.out 0) | ((with_reducible refine gate_callee (f := 52) rfl ?_); refine goesL_ (some 46) rfl rfl Tryd.func52 (by kernel_rfl) rfl #[.agg #[.slice A0_0 l0_0.length c0_0]] rfl (by (try simp only [List.map_toArray, List.map_cons, List.map_nil]); first | done | rfl | (simp only [List.length_drop, List.length_take]; rfl)) ?_; (with_reducible refine (snowlineref02_Ready.calls kj5 _ _ l0_0 t763 t764 _ ?side1 ?side2 A37.out).mono ?_); (case side1 => repeat (first | exact (Kd.V_reads' HO_754000.out).2.2 | (with_reducible refine Kd.C_alloc ?_ _) | (with_reducible refine Kd.C_drewN ?_ _) | (with_reducible refine Kd.C_drew ?_))); (case side2 => exact (Kd.V_reads' HO_754000.out).2.1); rintro e w111 ⟨rfl, hb⟩; refine ⟨_, rfl, ?_⟩; have n0_ := Aside0.mk (Kd.V_below (by (with_reducible repeat (first | apply Kd.V_alloc | apply Kd.V_drewN | apply Kd.V_drew)); exact HO_754000.out) hb); have n1_ := Aside0.mk (blk_below (g := gb753) (o := .cells #[.slice A0_0 l0_0.length c0_0] 24 (0, 0)) (by (with_reducible repeat (first | refine blk_drewN ?_ _ | refine blk_drew ?_ | refine blk_alloc ?_ _)); exact BK753.out) hb); have n2_ := Aside0.mk (below_step (by repeat (first | (with_reducible first | exact HB.out | apply below_alloc | apply pw_below_drewN | apply below_drew1 | refine below_set ?_ GE753.out) | exact HB.out)) hb); clear HO_754000; clear BK753; clear HB; have HO_754000 := n0_; have BK753 := n1_; have HB := n2_; clear n0_ n1_ n2_; (try clear hb); (try clear hb2); (try clear hk); (try clear hi); have hcz112_0 : w111.cell? ⟨gb753, 0, none⟩ = some (.slice A0_0 l0_0.length c0_0) := (blk_cell BK753.out 0).trans rfl; have hfz112_0 := blk_frozen BK753.out 0) | ((with_reducible refine gate_callee (f := 53) rfl ?_); refine goesL_ (some 52) rfl rfl Tryd.func53 (by kernel_rfl) rfl #[.agg #[.slice A0_0 l0_0.length c0_0], .int .i64 a1] rfl (by (try simp only [List.map_toArray, List.map_cons, List.map_nil]); first | done | rfl | (simp only [List.length_drop, List.length_take]; rfl)) ?_; (with_reducible refine (pack_Yield.calls _ _ l0_0 a1 t765 t766 _ ?side1 ?side2 A38.out).mono ?_); (case side1 => repeat (first | exact (Kd.V_reads' HO_754000.out).2.2 | (with_reducible refine Kd.C_alloc ?_ _) | (with_reducible refine Kd.C_drewN ?_ _) | (with_reducible refine Kd.C_drew ?_))); (case side2 => exact (Kd.V_reads' HO_754000.out).2.1); rintro e w113 ⟨rfl, hb⟩; refine ⟨_, rfl, ?_⟩; have n0_ := Aside0.mk (Kd.V_below (by (with_reducible repeat (first | apply Kd.V_alloc | apply Kd.V_drewN | apply Kd.V_drew)); exact HO_754000.out) hb); have n1_ := Aside0.mk (blk_below (g := gb753) (o := .cells #[.slice A0_0 l0_0.length c0_0] 24 (0, 0)) (by (with_reducible repeat (first | refine blk_drewN ?_ _ | refine blk_drew ?_ | refine blk_alloc ?_ _)); exact BK753.out) hb); have n2_ := Aside0.mk (below_step (by repeat (first | (with_reducible first | exact HB.out | apply below_alloc | apply pw_below_drewN | apply below_drew1 | refine below_set ?_ GE753.out) | exact HB.out)) hb); clear HO_754000; clear BK753; clear HB; have HO_754000 := n0_; have BK753 := n1_; have HB := n2_; clear n0_ n1_ n2_; (try clear hb); (try clear hb2); (try clear hk); (try clear hi); have hcz114_0 : w113.cell? ⟨gb753, 0, none⟩ = some (.slice A0_0 l0_0.length c0_0) := (blk_cell BK753.out 0).trans rfl; have hfz114_0 := blk_frozen BK753.out 0) | ((with_reducible refine gate_callee (f := 54) rfl ?_); refine goesL_ (some 58) rfl rfl Tryd.func54 (by kernel_rfl) rfl #[.agg #[.slice A0_0 l0_0.length c0_0], .int .i64 a1] rfl (by (try simp only [List.map_toArray, List.map_cons, List.map_nil]); first | done | rfl | (simp only [List.length_drop, List.length_take]; rfl)) ?_; (with_reducible refine (snowlineref02_Yield.calls kj5 _ _ l0_0 a1 t767 t768 _ ?side1 ?side2 A39.out).mono ?_); (case side1 => repeat (first | exact (Kd.V_reads' HO_754000.out).2.2 | (with_reducible refine Kd.C_alloc ?_ _) | (with_reducible refine Kd.C_drewN ?_ _) | (with_reducible refine Kd.C_drew ?_))); (case side2 => exact (Kd.V_reads' HO_754000.out).2.1); rintro e w115 ⟨rfl, hb⟩; refine ⟨_, rfl, ?_⟩; have n0_ := Aside0.mk (Kd.V_below (by (with_reducible repeat (first | apply Kd.V_alloc | apply Kd.V_drewN | apply Kd.V_drew)); exact HO_754000.out) hb); have n1_ := Aside0.mk (blk_below (g := gb753) (o := .cells #[.slice A0_0 l0_0.length c0_0] 24 (0, 0)) (by (with_reducible repeat (first | refine blk_drewN ?_ _ | refine blk_drew ?_ | refine blk_alloc ?_ _)); exact BK753.out) hb); have n2_ := Aside0.mk (below_step (by repeat (first | (with_reducible first | exact HB.out | apply below_alloc | apply pw_below_drewN | apply below_drew1 | refine below_set ?_ GE753.out) | exact HB.out)) hb); clear HO_754000; clear BK753; clear HB; have HO_754000 := n0_; have BK753 := n1_; have HB := n2_; clear n0_ n1_ n2_; (try clear hb); (try clear hb2); (try clear hk); (try clear hi); have hcz116_0 : w115.cell? ⟨gb753, 0, none⟩ = some (.slice A0_0 l0_0.length c0_0) := (blk_cell BK753.out 0).trans rfl; have hfz116_0 := blk_frozen BK753.out 0) | ((with_reducible refine gate_callee (f := 55) rfl ?_); refine goesL_ (some 64) rfl rfl Tryd.func55 (by kernel_rfl) rfl #[.agg #[.slice A0_0 l0_0.length c0_0], .int .i64 a2] rfl (by (try simp only [List.map_toArray, List.map_cons, List.map_nil]); first | done | rfl | (simp only [List.length_drop, List.length_take]; rfl)) ?_; (with_reducible refine (pack_Enough.calls _ _ l0_0 a2 t769 t770 t771 _ ?side1 ?side2 A40.out).mono ?_); (case side1 => repeat (first | exact (Kd.V_reads' HO_754000.out).2.2 | (with_reducible refine Kd.C_alloc ?_ _) | (with_reducible refine Kd.C_drewN ?_ _) | (with_reducible refine Kd.C_drew ?_))); (case side2 => exact (Kd.V_reads' HO_754000.out).2.1); rintro e w117 ⟨rfl, hb⟩; refine ⟨_, rfl, ?_⟩; have n0_ := Aside0.mk (Kd.V_below (by (with_reducible repeat (first | apply Kd.V_alloc | apply Kd.V_drewN | apply Kd.V_drew)); exact HO_754000.out) hb); have n1_ := Aside0.mk (blk_below (g := gb753) (o := .cells #[.slice A0_0 l0_0.length c0_0] 24 (0, 0)) (by (with_reducible repeat (first | refine blk_drewN ?_ _ | refine blk_drew ?_ | refine blk_alloc ?_ _)); exact BK753.out) hb); have n2_ := Aside0.mk (below_step (by repeat (first | (with_reducible first | exact HB.out | apply below_alloc | apply pw_below_drewN | apply below_drew1 | refine below_set ?_ GE753.out) | exact HB.out)) hb); clear HO_754000; clear BK753; clear HB; have HO_754000 := n0_; have BK753 := n1_; have HB := n2_; clear n0_ n1_ n2_; (try clear hb); (try clear hb2); (try clear hk); (try clear hi); have hcz118_0 : w117.cell? ⟨gb753, 0, none⟩ = some (.slice A0_0 l0_0.length c0_0) := (blk_cell BK753.out 0).trans rfl; have hfz118_0 := blk_frozen BK753.out 0) | ((with_reducible refine gate_callee (f := 56) rfl ?_); refine goesL_ (some 71) rfl rfl Tryd.func56 (by kernel_rfl) rfl #[.agg #[.slice A0_0 l0_0.length c0_0], .int .i64 a2] rfl (by (try simp only [List.map_toArray, List.map_cons, List.map_nil]); first | done | rfl | (simp only [List.length_drop, List.length_take]; rfl)) ?_; (with_reducible refine (snowlineref02_Enough.calls kj5 (fun k_ => ((P0_0_ k_ ∨ w.heap.size ≤ k_) ∧ k_ ≠ gb753)) _ _ l0_0 a2 t772 t773 t774 _ ?side1 A41.out).mono ?_); (case side1 => exact HO_754000.out); rintro e w119 ⟨rfl, hb⟩; refine ⟨_, rfl, ?_⟩; have n0_ := Aside0.mk (Kd.V_below (by (with_reducible repeat (first | apply Kd.V_alloc | apply Kd.V_drewN | apply Kd.V_drew)); exact HO_754000.out) hb); have n1_ := Aside0.mk (blk_below (g := gb753) (o := .cells #[.slice A0_0 l0_0.length c0_0] 24 (0, 0)) (by (with_reducible repeat (first | refine blk_drewN ?_ _ | refine blk_drew ?_ | refine blk_alloc ?_ _)); exact BK753.out) hb); have n2_ := Aside0.mk (below_step (by repeat (first | (with_reducible first | exact HB.out | apply below_alloc | apply pw_below_drewN | apply below_drew1 | refine below_set ?_ GE753.out) | exact HB.out)) hb); clear HO_754000; clear BK753; clear HB; have HO_754000 := n0_; have BK753 := n1_; have HB := n2_; clear n0_ n1_ n2_; (try clear hb); (try clear hb2); (try clear hk); (try clear hi)))
              go_ret
              exact ⟨by first | rfl | (simp [errW_none, errW_some] <;> rfl) | (simp [*, errW_none, errW_some] <;> rfl), by repeat (first | (with_reducible first | exact HB.out | apply below_alloc | apply pw_below_drewN | apply below_drew1 | refine below_set ?_ GE753.out) | exact HB.out)⟩
          · rw [if_neg c42] at H
            have c42b0 : (t761 == t763) = false := beq_eq_false_iff_ne.mpr c42
            have c42b1 : (t761 != t763) = true := bne_iff_ne.mpr c42
            obtain rfl := Option.some.inj H
            have hcz120_0 : wc.cell? ⟨gb753, 0, none⟩ = some (.slice A0_0 l0_0.length c0_0) := (blk_cell BK753.out 0).trans rfl
            have hfz120_0 := blk_frozen BK753.out 0
            go_wp2_with (first | ((with_reducible refine gate_callee (f := 26) rfl ?_); refine goesL_ (some 41) rfl rfl Tryd.func26 (by kernel_rfl) rfl #[.agg #[.slice A0_0 l0_0.length c0_0]] rfl (by (try simp only [List.map_toArray, List.map_cons, List.map_nil]); first | done | rfl | (simp only [List.length_drop, List.length_take]; rfl)) ?_; (with_reducible refine (pack_Ready.calls kj5 _ _ l0_0 t761 t762 _ ?side1 ?side2 A36.out).mono ?_); (case side1 => repeat (first | exact (Kd.V_reads' HO_754000.out).2.2 | (with_reducible refine Kd.C_alloc ?_ _) | (with_reducible refine Kd.C_drewN ?_ _) | (with_reducible refine Kd.C_drew ?_))); (case side2 => exact (Kd.V_reads' HO_754000.out).2.1); rintro e w121 ⟨rfl, hb⟩; refine ⟨_, rfl, ?_⟩; have n0_ := Aside0.mk (Kd.V_below (by (with_reducible repeat (first | apply Kd.V_alloc | apply Kd.V_drewN | apply Kd.V_drew)); exact HO_754000.out) hb); have n1_ := Aside0.mk (blk_below (g := gb753) (o := .cells #[.slice A0_0 l0_0.length c0_0] 24 (0, 0)) (by (with_reducible repeat (first | refine blk_drewN ?_ _ | refine blk_drew ?_ | refine blk_alloc ?_ _)); exact BK753.out) hb); have n2_ := Aside0.mk (below_step (by repeat (first | (with_reducible first | exact HB.out | apply below_alloc | apply pw_below_drewN | apply below_drew1 | refine below_set ?_ GE753.out) | exact HB.out)) hb); clear HO_754000; clear BK753; clear HB; have HO_754000 := n0_; have BK753 := n1_; have HB := n2_; clear n0_ n1_ n2_; (try clear hb); (try clear hb2); (try clear hk); (try clear hi); have hcz122_0 : w121.cell? ⟨gb753, 0, none⟩ = some (.slice A0_0 l0_0.length c0_0) := (blk_cell BK753.out 0).trans rfl; have hfz122_0 := blk_frozen BK753.out 0) | ((with_reducible refine gate_callee (f := 52) rfl ?_); refine goesL_ (some 46) rfl rfl Tryd.func52 (by kernel_rfl) rfl #[.agg #[.slice A0_0 l0_0.length c0_0]] rfl (by (try simp only [List.map_toArray, List.map_cons, List.map_nil]); first | done | rfl | (simp only [List.length_drop, List.length_take]; rfl)) ?_; (with_reducible refine (snowlineref02_Ready.calls kj5 _ _ l0_0 t763 t764 _ ?side1 ?side2 A37.out).mono ?_); (case side1 => repeat (first | exact (Kd.V_reads' HO_754000.out).2.2 | (with_reducible refine Kd.C_alloc ?_ _) | (with_reducible refine Kd.C_drewN ?_ _) | (with_reducible refine Kd.C_drew ?_))); (case side2 => exact (Kd.V_reads' HO_754000.out).2.1); rintro e w123 ⟨rfl, hb⟩; refine ⟨_, rfl, ?_⟩; have n0_ := Aside0.mk (Kd.V_below (by (with_reducible repeat (first | apply Kd.V_alloc | apply Kd.V_drewN | apply Kd.V_drew)); exact HO_754000.out) hb); have n1_ := Aside0.mk (blk_below (g := gb753) (o := .cells #[.slice A0_0 l0_0.length c0_0] 24 (0, 0)) (by (with_reducible repeat (first | refine blk_drewN ?_ _ | refine blk_drew ?_ | refine blk_alloc ?_ _)); exact BK753.out) hb); have n2_ := Aside0.mk (below_step (by repeat (first | (with_reducible first | exact HB.out | apply below_alloc | apply pw_below_drewN | apply below_drew1 | refine below_set ?_ GE753.out) | exact HB.out)) hb); clear HO_754000; clear BK753; clear HB; have HO_754000 := n0_; have BK753 := n1_; have HB := n2_; clear n0_ n1_ n2_; (try clear hb); (try clear hb2); (try clear hk); (try clear hi); have hcz124_0 : w123.cell? ⟨gb753, 0, none⟩ = some (.slice A0_0 l0_0.length c0_0) := (blk_cell BK753.out 0).trans rfl; have hfz124_0 := blk_frozen BK753.out 0) | ((with_reducible refine gate_callee (f := 53) rfl ?_); refine goesL_ (some 52) rfl rfl Tryd.func53 (by kernel_rfl) rfl #[.agg #[.slice A0_0 l0_0.length c0_0], .int .i64 a1] rfl (by (try simp only [List.map_toArray, List.map_cons, List.map_nil]); first | done | rfl | (simp only [List.length_drop, List.length_take]; rfl)) ?_; (with_reducible refine (pack_Yield.calls _ _ l0_0 a1 t765 t766 _ ?side1 ?side2 A38.out).mono ?_); (case side1 => repeat (first | exact (Kd.V_reads' HO_754000.out).2.2 | (with_reducible refine Kd.C_alloc ?_ _) | (with_reducible refine Kd.C_drewN ?_ _) | (with_reducible refine Kd.C_drew ?_))); (case side2 => exact (Kd.V_reads' HO_754000.out).2.1); rintro e w125 ⟨rfl, hb⟩; refine ⟨_, rfl, ?_⟩; have n0_ := Aside0.mk (Kd.V_below (by (with_reducible repeat (first | apply Kd.V_alloc | apply Kd.V_drewN | apply Kd.V_drew)); exact HO_754000.out) hb); have n1_ := Aside0.mk (blk_below (g := gb753) (o := .cells #[.slice A0_0 l0_0.length c0_0] 24 (0, 0)) (by (with_reducible repeat (first | refine blk_drewN ?_ _ | refine blk_drew ?_ | refine blk_alloc ?_ _)); exact BK753.out) hb); have n2_ := Aside0.mk (below_step (by repeat (first | (with_reducible first | exact HB.out | apply below_alloc | apply pw_below_drewN | apply below_drew1 | refine below_set ?_ GE753.out) | exact HB.out)) hb); clear HO_754000; clear BK753; clear HB; have HO_754000 := n0_; have BK753 := n1_; have HB := n2_; clear n0_ n1_ n2_; (try clear hb); (try clear hb2); (try clear hk); (try clear hi); have hcz126_0 : w125.cell? ⟨gb753, 0, none⟩ = some (.slice A0_0 l0_0.length c0_0) := (blk_cell BK753.out 0).trans rfl; have hfz126_0 := blk_frozen BK753.out 0) | ((with_reducible refine gate_callee (f := 54) rfl ?_); refine goesL_ (some 58) rfl rfl Tryd.func54 (by kernel_rfl) rfl #[.agg #[.slice A0_0 l0_0.length c0_0], .int .i64 a1] rfl (by (try simp only [List.map_toArray, List.map_cons, List.map_nil]); first | done | rfl | (simp only [List.length_drop, List.length_take]; rfl)) ?_; (with_reducible refine (snowlineref02_Yield.calls kj5 _ _ l0_0 a1 t767 t768 _ ?side1 ?side2 A39.out).mono ?_); (case side1 => repeat (first | exact (Kd.V_reads' HO_754000.out).2.2 | (with_reducible refine Kd.C_alloc ?_ _) | (with_reducible refine Kd.C_drewN ?_ _) | (with_reducible refine Kd.C_drew ?_))); (case side2 => exact (Kd.V_reads' HO_754000.out).2.1); rintro e w127 ⟨rfl, hb⟩; refine ⟨_, rfl, ?_⟩; have n0_ := Aside0.mk (Kd.V_below (by (with_reducible repeat (first | apply Kd.V_alloc | apply Kd.V_drewN | apply Kd.V_drew)); exact HO_754000.out) hb); have n1_ := Aside0.mk (blk_below (g := gb753) (o := .cells #[.slice A0_0 l0_0.length c0_0] 24 (0, 0)) (by (with_reducible repeat (first | refine blk_drewN ?_ _ | refine blk_drew ?_ | refine blk_alloc ?_ _)); exact BK753.out) hb); have n2_ := Aside0.mk (below_step (by repeat (first | (with_reducible first | exact HB.out | apply below_alloc | apply pw_below_drewN | apply below_drew1 | refine below_set ?_ GE753.out) | exact HB.out)) hb); clear HO_754000; clear BK753; clear HB; have HO_754000 := n0_; have BK753 := n1_; have HB := n2_; clear n0_ n1_ n2_; (try clear hb); (try clear hb2); (try clear hk); (try clear hi); have hcz128_0 : w127.cell? ⟨gb753, 0, none⟩ = some (.slice A0_0 l0_0.length c0_0) := (blk_cell BK753.out 0).trans rfl; have hfz128_0 := blk_frozen BK753.out 0) | ((with_reducible refine gate_callee (f := 55) rfl ?_); refine goesL_ (some 64) rfl rfl Tryd.func55 (by kernel_rfl) rfl #[.agg #[.slice A0_0 l0_0.length c0_0], .int .i64 a2] rfl (by (try simp only [List.map_toArray, List.map_cons, List.map_nil]); first | done | rfl | (simp only [List.length_drop, List.length_take]; rfl)) ?_; (with_reducible refine (pack_Enough.calls _ _ l0_0 a2 t769 t770 t771 _ ?side1 ?side2 A40.out).mono ?_); (case side1 => repeat (first | exact (Kd.V_reads' HO_754000.out).2.2 | (with_reducible refine Kd.C_alloc ?_ _) | (with_reducible refine Kd.C_drewN ?_ _) | (with_reducible refine Kd.C_drew ?_))); (case side2 => exact (Kd.V_reads' HO_754000.out).2.1); rintro e w129 ⟨rfl, hb⟩; refine ⟨_, rfl, ?_⟩; have n0_ := Aside0.mk (Kd.V_below (by (with_reducible repeat (first | apply Kd.V_alloc | apply Kd.V_drewN | apply Kd.V_drew)); exact HO_754000.out) hb); have n1_ := Aside0.mk (blk_below (g := gb753) (o := .cells #[.slice A0_0 l0_0.length c0_0] 24 (0, 0)) (by (with_reducible repeat (first | refine blk_drewN ?_ _ | refine blk_drew ?_ | refine blk_alloc ?_ _)); exact BK753.out) hb); have n2_ := Aside0.mk (below_step (by repeat (first | (with_reducible first | exact HB.out | apply below_alloc | apply pw_below_drewN | apply below_drew1 | refine below_set ?_ GE753.out) | exact HB.out)) hb); clear HO_754000; clear BK753; clear HB; have HO_754000 := n0_; have BK753 := n1_; have HB := n2_; clear n0_ n1_ n2_; (try clear hb); (try clear hb2); (try clear hk); (try clear hi); have hcz130_0 : w129.cell? ⟨gb753, 0, none⟩ = some (.slice A0_0 l0_0.length c0_0) := (blk_cell BK753.out 0).trans rfl; have hfz130_0 := blk_frozen BK753.out 0) | ((with_reducible refine gate_callee (f := 56) rfl ?_); refine goesL_ (some 71) rfl rfl Tryd.func56 (by kernel_rfl) rfl #[.agg #[.slice A0_0 l0_0.length c0_0], .int .i64 a2] rfl (by (try simp only [List.map_toArray, List.map_cons, List.map_nil]); first | done | rfl | (simp only [List.length_drop, List.length_take]; rfl)) ?_; (with_reducible refine (snowlineref02_Enough.calls kj5 (fun k_ => ((P0_0_ k_ ∨ w.heap.size ≤ k_) ∧ k_ ≠ gb753)) _ _ l0_0 a2 t772 t773 t774 _ ?side1 A41.out).mono ?_); (case side1 => exact HO_754000.out); rintro e w131 ⟨rfl, hb⟩; refine ⟨_, rfl, ?_⟩; have n0_ := Aside0.mk (Kd.V_below (by (with_reducible repeat (first | apply Kd.V_alloc | apply Kd.V_drewN | apply Kd.V_drew)); exact HO_754000.out) hb); have n1_ := Aside0.mk (blk_below (g := gb753) (o := .cells #[.slice A0_0 l0_0.length c0_0] 24 (0, 0)) (by (with_reducible repeat (first | refine blk_drewN ?_ _ | refine blk_drew ?_ | refine blk_alloc ?_ _)); exact BK753.out) hb); have n2_ := Aside0.mk (below_step (by repeat (first | (with_reducible first | exact HB.out | apply below_alloc | apply pw_below_drewN | apply below_drew1 | refine below_set ?_ GE753.out) | exact HB.out)) hb); clear HO_754000; clear BK753; clear HB; have HO_754000 := n0_; have BK753 := n1_; have HB := n2_; clear n0_ n1_ n2_; (try clear hb); (try clear hb2); (try clear hk); (try clear hi)))
            go_ret
            exact ⟨by first | rfl | (simp [errW_none, errW_some] <;> rfl) | (simp [*, errW_none, errW_some] <;> rfl), by repeat (first | (with_reducible first | exact HB.out | apply below_alloc | apply pw_below_drewN | apply below_drew1 | refine below_set ?_ GE753.out) | exact HB.out)⟩
  · replace c5 := Bool.eq_false_iff.mpr c5
    subst c5
    have H1 : (some false) = some r := by rw [if_neg (show ¬ (false = true) by decide)] at H; exact H
    clear H
    have H := H1
    clear H1
    obtain rfl := Option.some.inj H
    go_enter Tryd.func15, Tryd.ntmps15
    go_wp2_with (first | ((with_reducible refine gate_dst (N := 3) rfl ?_); refine box_event ?hg (N := 3) ?hd (cs := #[.slice A0_0 l0_0.length c0_0]) (t := 24) ?hr ?_; (case hd => rfl); (case hg => rfl); (case hr => first | (go_simp; done) | (go_simp; rfl)); intro gb753 hg w132 hbox hb; have n0_ := Aside0.mk (Kd.V_below (Kd.V_elderB (by (with_reducible repeat (first | apply Kd.V_alloc | apply Kd.V_drewN | apply Kd.V_drew)); exact HO0_0.out) gb753 (Nat.le_of_eq hg.symm)) hb); have n1_ := Aside0.mk (below_step (by repeat (first | (with_reducible first | exact HB.out | apply below_alloc | apply pw_below_drewN | apply below_drew1) | exact HB.out)) hb); have n2_ := Aside0.mk (hbox); have n3_ := Aside0.mk ((by rw [hg]; exact (below_size (by repeat (first | (with_reducible first | exact HB.out | apply below_alloc | apply pw_below_drewN | apply below_drew1) | exact HB.out))) : w.heap.size ≤ gb753)); have n4_ := Aside0.mk ((by rw [hg]; exact (below_size (by repeat (first | (with_reducible first | exact HB.out | apply below_alloc | apply pw_below_drewN | apply below_drew1) | exact HB.out))) : w.heap.size ≤ gb753)); clear HO0_0; clear HB; have HO0_0 := n0_; have HB := n1_; have BK753 := n2_; have GW753 := n3_; have GE753 := n4_; clear n0_ n1_ n2_ n3_ n4_; clear hb hbox hg) | ((with_reducible refine gate_callee (f := 18) rfl ?_); refine goesL_ (some 21) rfl rfl Tryd.func18 (by kernel_rfl) rfl #[] rfl (by (try simp only [List.map_toArray, List.map_cons, List.map_nil]); first | done | rfl | (simp only [List.length_drop, List.length_take]; rfl)) ?_; (with_reducible refine (snowlinelaw02_sane.calls k  false _ ?hgl_ A4.out).mono ?_); (case hgl_ => exact HGl.out.below (by repeat (first | (with_reducible first | exact HB.out | apply below_alloc | apply pw_below_drewN | apply below_drew1 | refine below_set ?_ GE753.out) | exact HB.out)) (Nat.le_refl _)); rintro e w133 ⟨rfl, hb⟩; refine ⟨_, rfl, ?_⟩; have n0_ := Aside0.mk (Kd.V_below (by (with_reducible repeat (first | apply Kd.V_alloc | apply Kd.V_drewN | apply Kd.V_drew)); exact HO0_0.out) hb); have n1_ := Aside0.mk (blk_below (g := gb753) (o := .cells #[.slice A0_0 l0_0.length c0_0] 24 (0, 0)) (by (with_reducible repeat (first | refine blk_drewN ?_ _ | refine blk_drew ?_ | refine blk_alloc ?_ _)); exact BK753.out) hb); have n2_ := Aside0.mk (below_step (by repeat (first | (with_reducible first | exact HB.out | apply below_alloc | apply pw_below_drewN | apply below_drew1 | refine below_set ?_ GE753.out) | exact HB.out)) hb); clear HO0_0; clear BK753; clear HB; have HO0_0 := n0_; have BK753 := n1_; have HB := n2_; clear n0_ n1_ n2_; (try clear hb); (try clear hb2); (try clear hk); (try clear hi)))
    go_ret
    exact ⟨by first | rfl | (simp [errW_none, errW_some] <;> rfl) | (simp [*, errW_none, errW_some] <;> rfl), by repeat (first | (with_reducible first | exact HB.out | apply below_alloc | apply pw_below_drewN | apply below_drew1 | refine below_set ?_ GE753.out) | exact HB.out)⟩
end Go.Proofs.YtpldcikmlpegpaaDoor.PB
end
section
namespace Go.Proofs.YtpldcikmlpegpaaDoor.Plain
open Go.RowKit Go.Proofs.YtpldcikmlpegpaaDoor.PB
abbrev Ly := S48
@[ext] theorem Ly.ext' {a b : Ly} (h0 : a.f0 = b.f0) (h1 : a.f1 = b.f1) (h2 : a.f2 = b.f2) : a = b := by
  cases a; cases b; simp_all
def Fit (l : Ly) : Prop := 0 ≤ l.f0 ∧ 0 ≤ l.f1 ∧ l.f1 ≤ l.f0 / 20 ∧ 0 ≤ l.f2
def Fits (ls : List Ly) : Prop := ∀ l ∈ ls, Fit l
theorem Fits.nil : Fits [] := by intro l h; cases h
theorem Fits.cons {l : Ly} {ls : List Ly} (h : Fit l) (hs : Fits ls) : Fits (l :: ls) := by
  intro x hx
  rcases List.mem_cons.mp hx with rfl | hx
  · exact h
  · exact hs x hx
theorem Fits.head {l : Ly} {ls : List Ly} (h : Fits (l :: ls)) : Fit l := h l List.mem_cons_self
theorem Fits.tail {l : Ly} {ls : List Ly} (h : Fits (l :: ls)) : Fits ls := fun x hx => h x (List.mem_cons_of_mem _ hx)
def water : List Ly → Int
  | [] => 0
  | l :: ls => l.f0 + l.f1 + water ls
def cold : List Ly → Int
  | [] => 0
  | l :: ls => l.f2 + cold ls
theorem water_nonneg {ls : List Ly} (h : Fits ls) : 0 ≤ water ls := by
  induction ls with
  | nil => exact Int.le_refl _
  | cons l ls ih =>
    have := ih h.tail
    obtain ⟨a, b, c, d⟩ := h.head
    simp only [water]
    omega
theorem cold_nonneg {ls : List Ly} (h : Fits ls) : 0 ≤ cold ls := by
  induction ls with
  | nil => exact Int.le_refl _
  | cons l ls ih =>
    have := ih h.tail
    obtain ⟨a, b, c, d⟩ := h.head
    simp only [cold]
    omega
def into (l : Ly) (m : Int) : Ly × Int :=
  let fr := min m l.f2
  let kept := min (m - fr) ((l.f0 + fr) / 20 - l.f1)
  (⟨l.f0 + fr, l.f1 + kept, l.f2 - fr⟩, m - fr - kept)
def flow : List Ly → Int → List Ly × Int
  | [], m => ([], m)
  | l :: ls, m => if 0 < m then ((into l m).1 :: (flow ls (into l m).2).1, (flow ls (into l m).2).2) else (l :: ls, m)
def flow1 : List Ly → List Ly × Int
  | [] => ([], 1)
  | l :: ls => if l.f2 = 0 ∧ l.f0 / 20 ≤ l.f1 then (l :: (flow1 ls).1, (flow1 ls).2)
      else if 0 < l.f2 then (⟨l.f0 + 1, l.f1, l.f2 - 1⟩ :: ls, 0) else (⟨l.f0, l.f1 + 1, l.f2⟩ :: ls, 0)
theorem flow_zero (ls : List Ly) : flow ls 0 = (ls, 0) := by
  cases ls <;> simp [flow]
theorem into_fit {l : Ly} {m : Int} (h : Fit l) (hm : 0 ≤ m) : Fit (into l m).1 ∧ 0 ≤ (into l m).2 := by
  obtain ⟨a, b, c, d⟩ := h
  simp only [into, Fit]
  omega
theorem into_water (l : Ly) (m : Int) : (into l m).1.f0 + (into l m).1.f1 + (into l m).2 = l.f0 + l.f1 + m := by
  simp only [into]; omega
theorem into_cold {l : Ly} {m : Int} (h : Fit l) (hm : 0 ≤ m) : (into l m).1.f2 ≤ l.f2 ∧ l.f0 ≤ (into l m).1.f0 := by
  obtain ⟨a, b, c, d⟩ := h
  simp only [into]
  omega
theorem flow_fit {ls : List Ly} : ∀ {m : Int}, Fits ls → 0 ≤ m → Fits (flow ls m).1 ∧ 0 ≤ (flow ls m).2 := by
  induction ls with
  | nil => intro m h hm; exact ⟨Fits.nil, hm⟩
  | cons l ls ih =>
    intro m h hm
    simp only [flow]
    split
    · obtain ⟨f, r⟩ := into_fit h.head hm
      obtain ⟨g, s⟩ := ih h.tail r
      exact ⟨Fits.cons f g, s⟩
    · exact ⟨h, hm⟩
theorem flow_water (ls : List Ly) : ∀ (m : Int), water (flow ls m).1 + (flow ls m).2 = water ls + m := by
  induction ls with
  | nil => intro m; simp [flow, water]
  | cons l ls ih =>
    intro m
    simp only [flow]
    split
    · have := ih (into l m).2
      have := into_water l m
      simp only [water]
      omega
    · simp only [water]
theorem flow_cold {ls : List Ly} : ∀ {m : Int}, Fits ls → 0 ≤ m → cold (flow ls m).1 ≤ cold ls := by
  induction ls with
  | nil => intro m h hm; exact Int.le_refl _
  | cons l ls ih =>
    intro m h hm
    simp only [flow]
    split
    · have := ih h.tail (into_fit h.head hm).2
      have := (into_cold h.head hm).1
      simp only [cold]
      omega
    · exact Int.le_refl _
theorem flow_length (ls : List Ly) : ∀ (m : Int), (flow ls m).1.length = ls.length := by
  induction ls with
  | nil => intro m; rfl
  | cons l ls ih =>
    intro m
    simp only [flow]
    split
    · simp [ih]
    · rfl
theorem flow_succ {ls : List Ly} : ∀ {m : Int}, Fits ls → 0 ≤ m → flow ls (m + 1) = ((flow (flow1 ls).1 m).1, (flow1 ls).2 + (flow (flow1 ls).1 m).2) := by
  induction ls with
  | nil => intro m _ _; simp [flow, flow1]; omega
  | cons l ls ih =>
    intro m h hm
    obtain ⟨a, b, c, d⟩ := h.head
    have hlt : 0 < m + 1 := by omega
    simp only [flow1]
    split
    · rename_i hf
      obtain ⟨f2, f1⟩ := hf
      have e : into l (m + 1) = (l, m + 1) := by
        simp only [into]
        refine Prod.ext ?_ ?_
        · apply Ly.ext' <;> dsimp only <;> omega
        · dsimp only; omega
      have e' : into l m = (l, m) := by
        simp only [into]
        refine Prod.ext ?_ ?_
        · apply Ly.ext' <;> dsimp only <;> omega
        · dsimp only; omega
      simp only [flow, if_pos hlt, e]
      rw [ih h.tail hm]
      by_cases h0 : 0 < m
      · rw [if_pos h0, e']
      · have : m = 0 := by omega
        subst this
        simp [flow_zero]
    · rename_i hf
      split
      · rename_i h2
        simp only [flow, if_pos hlt]
        by_cases h0 : 0 < m
        · have e : into l (m + 1) = into ⟨l.f0 + 1, l.f1, l.f2 - 1⟩ m := by
            simp only [into]
            refine Prod.ext ?_ ?_
            · apply Ly.ext' <;> dsimp only <;> omega
            · dsimp only; omega
          rw [if_pos h0, e]
          simp
        · have : m = 0 := by omega
          subst this
          have e : into l (0 + 1) = (⟨l.f0 + 1, l.f1, l.f2 - 1⟩, 0) := by
            simp only [into]
            refine Prod.ext ?_ ?_
            · apply Ly.ext' <;> dsimp only <;> omega
            · dsimp only; omega
          rw [e]
          simp [flow_zero]
      · rename_i h2
        simp only [flow, if_pos hlt]
        by_cases h0 : 0 < m
        · have e : into l (m + 1) = into ⟨l.f0, l.f1 + 1, l.f2⟩ m := by
            simp only [into]
            refine Prod.ext ?_ ?_
            · apply Ly.ext' <;> dsimp only <;> omega
            · dsimp only; omega
          rw [if_pos h0, e]
          simp
        · have : m = 0 := by omega
          subst this
          have e : into l (0 + 1) = (⟨l.f0, l.f1 + 1, l.f2⟩, 0) := by
            simp only [into]
            refine Prod.ext ?_ ?_
            · apply Ly.ext' <;> dsimp only <;> omega
            · dsimp only; omega
          rw [e]
          simp [flow_zero]
end Go.Proofs.YtpldcikmlpegpaaDoor.Plain
end
section
namespace Go.Proofs.YtpldcikmlpegpaaDoor.Plain
open Go.RowKit Go.Proofs.YtpldcikmlpegpaaDoor.PB
def lose1 (l : Ly) (ls : List Ly) (more : Int) : List Ly × Int :=
  let wet := min (l.f1 + more) ((l.f0 - 1) / 20)
  let r := flow ls (l.f1 + more - wet)
  if l.f0 - 1 = 0 then r else (⟨l.f0 - 1, wet, l.f2⟩ :: r.1, r.2)
def vanish1 : List Ly → List Ly × Int
  | [] => ([], 0)
  | l :: ls => lose1 l ls 0
def melt1 : List Ly → List Ly × Int
  | [] => ([], 0)
  | l :: ls => if 0 < l.f2 then (⟨l.f0, l.f1, l.f2 - 1⟩ :: ls, 0) else lose1 l ls 1
def times (f : List Ly → List Ly × Int) : Nat → List Ly → List Ly × Int × Int
  | 0, L => (L, 0, 0)
  | _ + 1, [] => ([], 0, 0)
  | n + 1, l :: ls => ((times f n (f (l :: ls)).1).1, (f (l :: ls)).2 + (times f n (f (l :: ls)).1).2.1, 1 + (times f n (f (l :: ls)).1).2.2)
theorem times_nil (f : List Ly → List Ly × Int) (n : Nat) : times f n [] = ([], 0, 0) := by cases n <;> rfl
def Live (ls : List Ly) : Prop := ∀ l ∈ ls, Fit l ∧ 1 ≤ l.f0
theorem Live.fits {ls : List Ly} (h : Live ls) : Fits ls := fun l hl => (h l hl).1
theorem Live.nil : Live [] := by intro l h; cases h
theorem Live.cons {l : Ly} {ls : List Ly} (h : Fit l) (h1 : 1 ≤ l.f0) (hs : Live ls) : Live (l :: ls) := by
  intro x hx
  rcases List.mem_cons.mp hx with rfl | hx
  · exact ⟨h, h1⟩
  · exact hs x hx
theorem Live.head {l : Ly} {ls : List Ly} (h : Live (l :: ls)) : Fit l ∧ 1 ≤ l.f0 := h l List.mem_cons_self
theorem Live.tail {l : Ly} {ls : List Ly} (h : Live (l :: ls)) : Live ls := fun x hx => h x (List.mem_cons_of_mem _ hx)
theorem flow_live {ls : List Ly} : ∀ {m : Int}, Live ls → 0 ≤ m → Live (flow ls m).1 := by
  induction ls with
  | nil => intro m h hm; exact Live.nil
  | cons l ls ih =>
    intro m h hm
    simp only [flow]
    split
    · obtain ⟨f, r⟩ := into_fit h.head.1 hm
      have := (into_cold h.head.1 hm).2
      exact Live.cons f (by have := h.head.2; omega) (ih h.tail r)
    · exact h
theorem lose1_rest {l : Ly} {more : Int} (h : Fit l) (h1 : 1 ≤ l.f0) (hm : 0 ≤ more) : 0 ≤ l.f1 + more - min (l.f1 + more) ((l.f0 - 1) / 20) ∧ 0 ≤ min (l.f1 + more) ((l.f0 - 1) / 20) := by
  obtain ⟨a, b, c, d⟩ := h
  omega
theorem lose1_live {l : Ly} {ls : List Ly} {more : Int} (h : Live (l :: ls)) (hm : 0 ≤ more) : Live (lose1 l ls more).1 ∧ 0 ≤ (lose1 l ls more).2 := by
  obtain ⟨f, h1⟩ := h.head
  obtain ⟨r0, w0⟩ := lose1_rest f h1 hm
  have g := flow_fit h.tail.fits r0
  have g' := flow_live h.tail r0
  simp only [lose1]
  split
  · exact ⟨g', g.2⟩
  · refine ⟨Live.cons ?_ ?_ g', g.2⟩
    · obtain ⟨a, b, c, d⟩ := f
      simp only [Fit]
      omega
    · dsimp only
      omega
theorem lose1_water {l : Ly} {ls : List Ly} {more : Int} (h : Live (l :: ls)) (hm : 0 ≤ more) : water (lose1 l ls more).1 + (lose1 l ls more).2 = water (l :: ls) - 1 + more := by
  obtain ⟨f, h1⟩ := h.head
  have g := flow_water ls (l.f1 + more - min (l.f1 + more) ((l.f0 - 1) / 20))
  obtain ⟨a, b, c, d⟩ := f
  simp only [lose1]
  split
  · simp only [water]
    omega
  · simp only [water]
    omega
theorem lose1_cold {l : Ly} {ls : List Ly} {more : Int} (h : Live (l :: ls)) (hm : 0 ≤ more) : cold (lose1 l ls more).1 ≤ cold (l :: ls) := by
  obtain ⟨f, h1⟩ := h.head
  obtain ⟨r0, w0⟩ := lose1_rest f h1 hm
  have g := flow_cold h.tail.fits r0
  obtain ⟨a, b, c, d⟩ := f
  simp only [lose1]
  split
  · simp only [cold]; omega
  · simp only [cold]; omega
structure Round (f : List Ly → List Ly × Int) (d : Int) : Prop where
  live : ∀ {l ls}, Live (l :: ls) → Live (f (l :: ls)).1 ∧ 0 ≤ (f (l :: ls)).2
  water : ∀ {l ls}, Live (l :: ls) → water (f (l :: ls)).1 + (f (l :: ls)).2 + d = water (l :: ls)
  cold : ∀ {l ls}, Live (l :: ls) → cold (f (l :: ls)).1 ≤ cold (l :: ls)
  len : ∀ {l ls}, Live (l :: ls) → (f (l :: ls)).1.length ≤ (l :: ls).length
theorem lose1_len (l : Ly) (ls : List Ly) (more : Int) : (lose1 l ls more).1.length ≤ (l :: ls).length := by
  simp only [lose1]
  split <;> simp [flow_length]
theorem vanish_round : Round vanish1 1 where
  live h := lose1_live h (Int.le_refl _)
  water h := by have := lose1_water h (Int.le_refl 0); simp only [vanish1]; omega
  cold h := lose1_cold h (Int.le_refl _)
  len _ := lose1_len _ _ _
theorem melt_round : Round melt1 0 where
  live {l ls} h := by
    simp only [melt1]
    split
    · rename_i h2
      obtain ⟨⟨a, b, c, d⟩, h1⟩ := h.head
      exact ⟨Live.cons (by simp only [Fit]; omega) h1 h.tail, Int.le_refl _⟩
    · exact lose1_live h (by omega)
  water {l ls} h := by
    simp only [melt1]
    split
    · simp only [water]; omega
    · have := lose1_water h (show (0 : Int) ≤ 1 by omega); omega
  cold {l ls} h := by
    simp only [melt1]
    split
    · simp only [cold]; omega
    · exact lose1_cold h (by omega)
  len {l ls} h := by
    simp only [melt1]
    split
    · simp
    · exact lose1_len _ _ _
section
variable {f : List Ly → List Ly × Int} {d : Int}
theorem times_keeps (hf : Round f d) (n : Nat) : ∀ {L : List Ly}, Live L → Live (times f n L).1 ∧ 0 ≤ (times f n L).2.1 ∧ 0 ≤ (times f n L).2.2 ∧ (times f n L).2.2 ≤ n ∧
    water (times f n L).1 + (times f n L).2.1 + d * (times f n L).2.2 = water L ∧ cold (times f n L).1 ≤ cold L ∧ (times f n L).1.length ≤ L.length ∧ ((times f n L).1 ≠ [] → (times f n L).2.2 = n) := by
  induction n with
  | zero => intro L h; simp [times, h]
  | succ n ih =>
    intro L h
    cases L with
    | nil => simp [times, Live.nil]; omega
    | cons l ls =>
      have a := hf.live h
      have b := hf.water h
      have c := hf.cold h
      have e := hf.len h
      obtain ⟨i1, i2, i3, i4, i5, i6, i7, i8⟩ := ih a.1
      have hd : d * (1 + (times f n (f (l :: ls)).1).2.2) = d + d * (times f n (f (l :: ls)).1).2.2 := by rw [Int.mul_add, Int.mul_one]
      simp only [times]
      refine ⟨i1, by omega, by omega, by omega, by omega, by omega, by omega, fun hne => ?_⟩
      have := i8 hne
      omega
theorem times_add (f : List Ly → List Ly × Int) (m n : Nat) : ∀ (L : List Ly), times f (m + n) L = ((times f n (times f m L).1).1, (times f m L).2.1 + (times f n (times f m L).1).2.1, (times f m L).2.2 + (times f n (times f m L).1).2.2) := by
  induction m with
  | zero => intro L; simp [times]
  | succ m ih =>
    intro L
    cases L with
    | nil => simp [times_nil]
    | cons l ls =>
      have e : m + 1 + n = (m + n) + 1 := by omega
      rw [e]
      simp only [times]
      rw [ih]
      simp [Int.add_assoc]
end
def freezes : List Ly → Int → List Ly × Int
  | [], m => ([], m)
  | l :: ls, m => (⟨l.f0 + min m l.f1, l.f1 - min m l.f1, l.f2⟩ :: (freezes ls (m - min m l.f1)).1, (freezes ls (m - min m l.f1)).2)
def chill : List Ly → Int → List Ly
  | [], _ => []
  | l :: ls, m => ⟨l.f0, l.f1, l.f2 + m⟩ :: ls
def freeze (ls : List Ly) (m : Int) : List Ly := chill (freezes ls m).1 (freezes ls m).2
theorem freezes_fit {ls : List Ly} : ∀ {m : Int}, Live ls → 0 ≤ m → Live (freezes ls m).1 ∧ 0 ≤ (freezes ls m).2 ∧ (freezes ls m).2 ≤ m ∧ water (freezes ls m).1 = water ls ∧ cold (freezes ls m).1 = cold ls ∧ (freezes ls m).1.length = ls.length := by
  induction ls with
  | nil => intro m h hm; exact ⟨Live.nil, hm, Int.le_refl _, rfl, rfl, rfl⟩
  | cons l ls ih =>
    intro m h hm
    obtain ⟨⟨a, b, c, d⟩, h1⟩ := h.head
    obtain ⟨i1, i2, i3, i4, i5, i6⟩ := ih (m := m - min m l.f1) h.tail (by omega)
    simp only [freezes]
    refine ⟨Live.cons ?_ ?_ i1, i2, by omega, ?_, ?_, ?_⟩
    · simp only [Fit]; omega
    · dsimp only; omega
    · simp only [water]; omega
    · simp only [cold]; omega
    · simp [i6]
end Go.Proofs.YtpldcikmlpegpaaDoor.Plain
end
section
namespace Go.Proofs.YtpldcikmlpegpaaDoor.Plain
open Go.RowKit Go.Proofs.YtpldcikmlpegpaaDoor.PB
theorem wr (x : Int) (h : -9223372036854775808 ≤ x ∧ x ≤ 9223372036854775807) : wrap64 x = x := by
  unfold wrap64
  omega
def Right (l : Ly) : Prop := 1 ≤ l.f0 ∧ l.f0 ≤ 65536 ∧ 0 ≤ l.f2 ∧ l.f2 ≤ 65536 ∧ 0 ≤ l.f1 ∧ l.f1 ≤ l.f0 / 20 ∧ (l.f1 = 0 ∨ l.f2 = 0)
instance (l : Ly) : Decidable (Right l) := inferInstanceAs (Decidable (_ ∧ _))
def Rights (ls : List Ly) : Prop := ∀ l ∈ ls, Right l
instance (ls : List Ly) : Decidable (Rights ls) := inferInstanceAs (Decidable (∀ l ∈ ls, Right l))
def Valid (ls : List Ly) : Prop := ls.length ≤ 64 ∧ Rights ls ∧ water ls ≤ 65536 ∧ cold ls ≤ 65536
instance (ls : List Ly) : Decidable (Valid ls) := inferInstanceAs (Decidable (_ ∧ _))
def checkE (ls : List Ly) : Int := if Valid ls then 0 else 20
theorem Right.live {l : Ly} (h : Right l) : Fit l ∧ 1 ≤ l.f0 := by
  obtain ⟨a, b, c, d, e, f, g⟩ := h
  unfold Fit
  omega
theorem Rights.live {ls : List Ly} (h : Rights ls) : Live ls := fun l hl => (h l hl).live
theorem Rights.head {l : Ly} {ls : List Ly} (h : Rights (l :: ls)) : Right l := h l List.mem_cons_self
theorem Rights.tail {l : Ly} {ls : List Ly} (h : Rights (l :: ls)) : Rights ls := fun x hx => h x (List.mem_cons_of_mem _ hx)
theorem Valid.live {ls : List Ly} (h : Valid ls) : Live ls := h.2.1.live
theorem from_eq (a b c : Int) : pack_from.f a b c = some (decide (b ≤ a ∧ a ≤ c)) := by
  unfold pack_from.f
  by_cases h : a ≥ b
  · rw [if_pos h]; congr 1; simp; omega
  · rw [if_neg h]; congr 1; symm; simp; omega
theorem some_true {p : Prop} [Decidable p] (h : p) : (some true : Option Bool) = some (decide p) := by rw [decide_eq_true h]
theorem some_false {p : Prop} [Decidable p] (h : ¬ p) : (some false : Option Bool) = some (decide p) := by rw [decide_eq_false h]
theorem right_eq (a b c : Int) : pack_right.f a b c = some (decide (Right ⟨a, b, c⟩)) := by
  unfold pack_right.f
  simp only [from_eq, Option.bind_some, pack_hold.f, decide_eq_true_eq]
  by_cases h1 : 1 ≤ a ∧ a ≤ 65536
  · have ht : wrap64 (Int.tdiv a 20) = a / 20 := by rw [Int.tdiv_eq_ediv_of_nonneg (by omega), wr _ (by omega)]
    rw [if_pos h1]
    by_cases h2 : 0 ≤ c ∧ c ≤ 65536
    · rw [if_pos h2, ht]
      by_cases h3 : 0 ≤ b ∧ b ≤ a / 20
      · rw [if_pos h3]
        by_cases h4 : b = 0
        · rw [if_pos h4]; exact some_true ⟨h1.1, h1.2, h2.1, h2.2, h3.1, h3.2, .inl h4⟩
        · rw [if_neg h4]
          by_cases h5 : c = 0
          · rw [show (c == 0) = true by simp [h5]]; exact some_true ⟨h1.1, h1.2, h2.1, h2.2, h3.1, h3.2, .inr h5⟩
          · rw [show (c == 0) = false by simp [h5]]; exact some_false (fun h => h.2.2.2.2.2.2.elim h4 h5)
      · rw [if_neg h3]; exact some_false (fun h => h3 ⟨h.2.2.2.2.1, h.2.2.2.2.2.1⟩)
    · rw [if_neg h2]; exact some_false (fun h => h2 ⟨h.2.2.1, h.2.2.2.1⟩)
  · rw [if_neg h1]; exact some_false (fun h => h1 ⟨h.1, h.2.1⟩)
theorem rd_drop {ls : List Ly} {i : Nat} (h : i < ls.length) : ls.drop i = rd_T48 ls (i : Int) :: ls.drop (i + 1) := by
  rw [List.drop_eq_getElem_cons h]
  congr 1
  simp [rd_T48, List.getD_eq_getElem?_getD, h]
theorem sums_loop (ls : List Ly) (hr : Rights ls) (hl : ls.length ≤ 128) : ∀ (d k i : Nat) (w c : Int), i + d = ls.length → d < k → 0 ≤ w → w ≤ 131072 * (i : Int) → 0 ≤ c → c ≤ 65536 * (i : Int) →
    pack_sums.l0 k w c ls (ls.length : Int) (i : Int) = some (w + water (ls.drop i), c + cold (ls.drop i)) := by
  intro d
  induction d with
  | zero =>
    intro k i w c hi hk _ _ _ _
    obtain ⟨k, rfl⟩ : ∃ j, k = j + 1 := ⟨k - 1, by omega⟩
    unfold pack_sums.l0
    rw [if_neg (by omega), List.drop_eq_nil_of_le (by omega)]
    simp [water, cold]
  | succ d ih =>
    intro k i w c hi hk h0 h1 h2 h3
    obtain ⟨k, rfl⟩ : ∃ j, k = j + 1 := ⟨k - 1, by omega⟩
    have hm : Right (rd_T48 ls (i : Int)) := hr _ (by
      have : rd_T48 ls (i : Int) ∈ ls.drop i := by rw [rd_drop (by omega)]; exact List.mem_cons_self
      exact List.mem_of_mem_drop this)
    obtain ⟨a, b, cc, dd, e, f, g⟩ := hm
    unfold pack_sums.l0
    rw [if_pos (by omega), if_pos (by omega), if_pos (by omega)]
    rw [rd_drop (show i < ls.length by omega)]
    simp only [water, cold]
    rw [wr ((rd_T48 ls (i : Int)).f0 + _) (by omega), wr (w + _) (by omega), wr (c + _) (by omega), wr ((i : Int) + 1) (by omega)]
    have := ih k (i + 1) (w + ((rd_T48 ls (i : Int)).f0 + (rd_T48 ls (i : Int)).f1)) (c + (rd_T48 ls (i : Int)).f2) (by omega) (by omega) (by omega) (by push_cast; omega) (by omega) (by push_cast; omega)
    push_cast at this
    rw [this]
    congr 2 <;> omega
theorem sums_eq {k : Nat} {ls : List Ly} (hr : Rights ls) (hl : ls.length ≤ 128) (hk : ls.length < k) : pack_sums.f k ls = some (water ls, cold ls) := by
  unfold pack_sums.f
  have := sums_loop ls hr hl ls.length k 0 0 0 (by omega) hk (by omega) (by omega) (by omega) (by omega)
  simpa using this
theorem check_loop (ls : List Ly) (hl : ls.length ≤ 64) : ∀ (d k i : Nat), i + d = ls.length → d + 65 < k → Rights (ls.take i) →
    pack_Check.l0 k ls (ls.length : Int) (i : Int) ls = some (checkE ls) := by
  intro d
  induction d with
  | zero =>
    intro k i hi hk h
    obtain ⟨k, rfl⟩ : ∃ j, k = j + 1 := ⟨k - 1, by omega⟩
    rw [List.take_of_length_le (by omega)] at h
    unfold pack_Check.l0
    rw [if_neg (by omega), sums_eq h (by omega) (by omega)]
    simp only [Option.bind_some, checkE]
    by_cases hw : water ls > 65536
    · rw [if_pos hw, if_neg (fun hv : Valid ls => by have := hv.2.2.1; omega)]
    · rw [if_neg hw]
      by_cases hc : cold ls > 65536
      · rw [if_pos hc, if_neg (fun hv : Valid ls => by have := hv.2.2.2; omega)]
      · rw [if_neg hc, if_pos (show Valid ls from ⟨hl, h, by omega, by omega⟩)]
  | succ d ih =>
    intro k i hi hk h
    obtain ⟨k, rfl⟩ : ∃ j, k = j + 1 := ⟨k - 1, by omega⟩
    unfold pack_Check.l0
    rw [if_pos (by omega), if_pos (by omega), if_pos (by omega), right_eq]
    simp only [Option.bind_some, decide_eq_true_eq]
    have hd := rd_drop (show i < ls.length by omega)
    by_cases hr : Right (rd_T48 ls (i : Int))
    · rw [if_pos (by exact hr), wr ((i : Int) + 1) (by omega)]
      have := ih k (i + 1) (by omega) (by omega) (by
        intro x hx
        rw [List.take_add_one] at hx
        rcases List.mem_append.mp hx with hx | hx
        · exact h x hx
        · have e : ls[i]?.toList = [rd_T48 ls (i : Int)] := by
            simp [rd_T48, List.getD_eq_getElem?_getD, show i < ls.length by omega]
          rw [e] at hx
          rw [List.mem_singleton.mp hx]
          exact hr)
      push_cast at this
      exact this
    · rw [if_neg (by exact hr), checkE, if_neg]
      intro hv
      exact hr (hv.2.1 _ (by
        have : rd_T48 ls (i : Int) ∈ ls.drop i := by rw [hd]; exact List.mem_cons_self
        exact List.mem_of_mem_drop this))
theorem check_eq {k : Nat} (hk : 130 ≤ k) (ls : List Ly) : pack_Check.f k ls = some (checkE ls) := by
  unfold pack_Check.f
  by_cases h : (ls.length : Int) > 64
  · rw [if_pos h, checkE, if_neg (by rintro ⟨h1, _⟩; omega)]
  · rw [if_neg h]
    exact check_loop ls (by omega) ls.length k 0 (by omega) (by omega) (by intro x hx; simp at hx)
theorem checkE_zero {ls : List Ly} : checkE ls = 0 ↔ Valid ls := by
  unfold checkE
  split <;> simp_all
theorem checkE_pos {ls : List Ly} (h : Valid ls) : checkE ls = 0 := checkE_zero.2 h
theorem checkE_neg {ls : List Ly} (h : ¬ Valid ls) : checkE ls = 20 := if_neg h
instance : DecidableEq Ly := fun a b => decidable_of_iff (a.f0 = b.f0 ∧ a.f1 = b.f1 ∧ a.f2 = b.f2) ⟨fun h => Ly.ext' h.1 h.2.1 h.2.2, fun h => by rw [h]; exact ⟨rfl, rfl, rfl⟩⟩
end Go.Proofs.YtpldcikmlpegpaaDoor.Plain
end
section
namespace Go.Proofs.YtpldcikmlpegpaaDoor.Plain
open Go.RowKit Go.Proofs.YtpldcikmlpegpaaDoor.PB Go.Proofs.YtpldcikmlpegpaaDoor.Col Go.Proofs.YtpldcikmlpegpaaDoorW.PrintWords Go.Proofs.YtpldcikmlpegpaaDoorW.PrintMore
theorem mn_min (a b : Int) : mn a b = min a b := by unfold mn; split <;> omega
def St (c : C) (n : Nat) (L : List Ly) (o t : Int) : Prop :=
  c.n = n ∧ c.out = o ∧ c.taken = t ∧ ∃ pre post, c.at_ = pre ++ L ++ post ∧ pre.length = c.top ∧ c.top + L.length = n
theorem St.live {c : C} {n : Nat} {L : List Ly} {o t : Int} (h : St c n L o t) : c.live = L := by
  obtain ⟨h1, h2, h3, pre, post, h4, h5, h6⟩ := h
  unfold C.live
  rw [h4, ← h5, List.append_assoc, List.drop_left, show c.n - pre.length = L.length by omega, List.take_left]
theorem st_of (l : List Ly) : St (C.of l) (l.length + 1) l 0 0 :=
  ⟨rfl, rfl, rfl, [z48], List.replicate (64 - l.length) z48, rfl, rfl, by show 1 + l.length = _; omega⟩
theorem stepW_into {l : Ly} {m : Int} (h : Fit l) (hm : 0 ≤ m) (hw : l.f0 + l.f1 + m ≤ 1099511627776) (hc : l.f2 ≤ 1099511627776) : stepW l m = into l m := by
  obtain ⟨a, b, c, d⟩ := h
  have h0 : 0 ≤ l.f0 + min m l.f2 := by omega
  unfold stepW into
  simp only [mn_min]
  rw [wr (l.f0 + min m l.f2) (by omega), Int.tdiv_eq_ediv_of_nonneg h0, wr (m - min m l.f2) (by omega), wr ((l.f0 + min m l.f2) / 20) (by omega), wr ((l.f0 + min m l.f2) / 20 - l.f1) (by omega)]
  rw [wr (l.f1 + _) (by omega), wr (l.f2 - _) (by omega), wr (m - min m l.f2 - _) (by omega)]
theorem get_mid (pre : List Ly) (l : Ly) (post : List Ly) : (pre ++ l :: post).getD pre.length z48 = l := by
  simp [List.getD_eq_getElem?_getD]
theorem set_mid (pre : List Ly) (l x : Ly) (post : List Ly) : (pre ++ l :: post).set pre.length x = pre ++ x :: post := by
  simp
theorem flowAt_flow : ∀ (L pre post : List Ly) (m : Int), Fits L → 0 ≤ m → water L + m ≤ 1099511627776 → cold L ≤ 1099511627776 →
    flowAt L.length (pre ++ L ++ post) pre.length m = (pre ++ (flow L m).1 ++ post, (flow L m).2) := by
  intro L
  induction L with
  | nil => intro pre post m _ _ _ _; rfl
  | cons l ls ih =>
    intro pre post m hf hm hw hc
    have f := hf.head
    have w0 := water_nonneg hf.tail
    have c0 := cold_nonneg hf.tail
    simp only [water, cold] at hw hc
    obtain ⟨a, b, c, d⟩ := f
    simp only [List.length_cons, flowAt, flow]
    split
    · have e : pre ++ (l :: ls) ++ post = pre ++ l :: (ls ++ post) := by simp
      have hs : stepW l m = into l m := stepW_into hf.head hm (by omega) (by omega)
      rw [e, get_mid, set_mid, hs]
      obtain ⟨g, r⟩ := into_fit hf.head hm
      have hiw := into_water l m
      have hg := g
      obtain ⟨a', b', c', d'⟩ := hg
      have e2 : pre ++ (into l m).1 :: (ls ++ post) = (pre ++ [(into l m).1]) ++ ls ++ post := by simp
      have e3 : pre.length + 1 = (pre ++ [(into l m).1]).length := by simp
      rw [e2, e3, ih (pre ++ [(into l m).1]) post (into l m).2 hf.tail r (by omega) (by omega)]
      simp
    · rfl
theorem c_lose {c : C} {n : Nat} {l : Ly} {ls : List Ly} {o t more : Int} (h : St c n (l :: ls) o t) (hl : Live (l :: ls)) (hm : 0 ≤ more) (hm1 : more ≤ 1) (ho : 0 ≤ o) (hw : water (l :: ls) + o ≤ 549755813888) (hc : cold (l :: ls) ≤ 549755813888) :
    St (c.lose more) n (lose1 l ls more).1 (o + (lose1 l ls more).2) t := by
  obtain ⟨h1, h2, h3, pre, post, h4, h5, h6⟩ := h
  have hk := lose1_live hl hm
  have hkw := lose1_water hl hm
  have wn := water_nonneg hk.1.fits
  obtain ⟨⟨a, b, cc, d⟩, i1⟩ := hl.head
  have w0 := water_nonneg hl.tail.fits
  have c0 := cold_nonneg hl.tail.fits
  have hw' := hw
  have hc' := hc
  simp only [water, cold] at hw' hc'
  obtain ⟨r0, r1⟩ := lose1_rest (more := more) hl.head.1 hl.head.2 hm
  have e : pre ++ (l :: ls) ++ post = pre ++ l :: (ls ++ post) := by simp
  have hd : 0 ≤ l.f0 - 1 := by omega
  have hL : loseW l more = (⟨l.f0 - 1, min (l.f1 + more) ((l.f0 - 1) / 20), l.f2⟩, l.f1 + more - min (l.f1 + more) ((l.f0 - 1) / 20)) := by
    unfold loseW
    simp only [mn_min]
    rw [wr (l.f0 - 1) (by omega), wr (l.f1 + more) (by omega), Int.tdiv_eq_ediv_of_nonneg hd, wr ((l.f0 - 1) / 20) (by omega), wr (l.f1 + more - _) (by omega)]
  have hln : c.n - (c.top + 1) = ls.length := by simp only [List.length_cons] at h6; omega
  have hfl := flowAt_flow ls (pre ++ [⟨l.f0 - 1, min (l.f1 + more) ((l.f0 - 1) / 20), l.f2⟩]) post (l.f1 + more - min (l.f1 + more) ((l.f0 - 1) / 20)) hl.tail.fits r0 (by omega) (by omega)
  have e2 : pre ++ (⟨l.f0 - 1, min (l.f1 + more) ((l.f0 - 1) / 20), l.f2⟩ : Ly) :: (ls ++ post) = (pre ++ [⟨l.f0 - 1, min (l.f1 + more) ((l.f0 - 1) / 20), l.f2⟩]) ++ ls ++ post := by simp
  have e3 : pre.length + 1 = (pre ++ [(⟨l.f0 - 1, min (l.f1 + more) ((l.f0 - 1) / 20), l.f2⟩ : Ly)]).length := by simp
  have hat : c.at_.getD c.top z48 = l := by rw [h4, ← h5, e, get_mid]
  have hset : c.at_.set c.top (loseW l more).1 = (pre ++ [⟨l.f0 - 1, min (l.f1 + more) ((l.f0 - 1) / 20), l.f2⟩]) ++ ls ++ post := by rw [h4, ← h5, e, set_mid, hL, ← e2]
  have hr : flowAt (c.n - (c.top + 1)) (c.at_.set c.top (loseW l more).1) (c.top + 1) (loseW l more).2 = ((pre ++ [⟨l.f0 - 1, min (l.f1 + more) ((l.f0 - 1) / 20), l.f2⟩]) ++ (flow ls (l.f1 + more - min (l.f1 + more) ((l.f0 - 1) / 20))).1 ++ post, (flow ls (l.f1 + more - min (l.f1 + more) ((l.f0 - 1) / 20))).2) := by
    rw [hset, hln, hL, ← h5, e3]
    exact hfl
  have hsnd : (lose1 l ls more).2 = (flow ls (l.f1 + more - min (l.f1 + more) ((l.f0 - 1) / 20))).2 := by
    simp only [lose1]
    split <;> rfl
  have hfl' : (flow ls (l.f1 + more - min (l.f1 + more) ((l.f0 - 1) / 20))).1.length = ls.length := flow_length _ _
  unfold C.lose
  simp only [hat, hr]
  refine ⟨h1, ?_, h3, ?_⟩
  · show wrap64 (c.out + _) = _
    rw [h2, ← hsnd, wr _ (by omega)]
  · rw [wr (l.f0 - 1) (by omega)]
    simp only [lose1]
    simp only [List.length_cons] at h6
    by_cases hz : l.f0 - 1 = 0
    · rw [if_pos hz, if_pos hz]
      exact ⟨_, post, rfl, by simp [h5], by rw [hfl']; omega⟩
    · rw [if_neg hz, if_neg hz]
      exact ⟨pre, post, by simp, h5, by simp only [List.length_cons]; rw [hfl']; omega⟩
theorem c_melt {c : C} {n : Nat} {l : Ly} {ls : List Ly} {o t : Int} (h : St c n (l :: ls) o t) (hl : Live (l :: ls)) (ho : 0 ≤ o) (hw : water (l :: ls) + o ≤ 549755813888) (hc : cold (l :: ls) ≤ 549755813888) :
    St c.melt n (melt1 (l :: ls)).1 (o + (melt1 (l :: ls)).2) (t + 0) := by
  obtain ⟨h1, h2, h3, pre, post, h4, h5, h6⟩ := id h
  have e : pre ++ (l :: ls) ++ post = pre ++ l :: (ls ++ post) := by simp
  have hat : c.at_.getD c.top z48 = l := by rw [h4, ← h5, e, get_mid]
  have c0 := cold_nonneg hl.tail.fits
  have hc' := hc
  simp only [cold] at hc'
  unfold C.melt
  simp only [hat, melt1, Int.add_zero]
  split
  · refine ⟨h1, by simpa using h2, h3, pre, post, ?_, h5, by simpa using h6⟩
    show c.at_.set c.top _ = _
    rw [h4, ← h5, e, set_mid, wr (l.f2 - 1) (by omega)]
    simp
  · exact c_lose h hl (by omega) (by omega) ho hw hc
theorem c_times {F : C → C} {f : List Ly → List Ly × Int} {d : Int} (hd : 0 ≤ d ∧ d ≤ 1) (hf : Round f d)
    (hF : ∀ {c : C} {n : Nat} {l : Ly} {ls : List Ly} {o t : Int}, St c n (l :: ls) o t → Live (l :: ls) → 0 ≤ o → 0 ≤ t → t ≤ 549755813888 → water (l :: ls) + o ≤ 549755813888 → cold (l :: ls) ≤ 549755813888 → St (F c) n (f (l :: ls)).1 (o + (f (l :: ls)).2) (t + d)) :
    ∀ (k : Nat) {c : C} {n : Nat} {L : List Ly} {o t : Int}, St c n L o t → Live L → 0 ≤ o → 0 ≤ t → t + (k : Int) ≤ 549755813888 → water L + o ≤ 549755813888 → cold L ≤ 549755813888 →
      St (C.times F k c) n (times f k L).1 (o + (times f k L).2.1) (t + d * (times f k L).2.2) := by
  intro k
  induction k with
  | zero => intro c n L o t h _ _ _ _ _ _; simpa [C.times, times] using h
  | succ k ih =>
    intro c n L o t h hl ho ht htk hw hc
    obtain ⟨h1, h2, h3, pre, post, h4, h5, h6⟩ := id h
    cases L with
    | nil =>
      simp only [List.length_nil] at h6
      simp only [C.times, times]
      rw [if_pos (by omega)]
      simpa using h
    | cons l ls =>
      simp only [List.length_cons] at h6
      simp only [C.times, times]
      rw [if_neg (by omega)]
      have hr := hF h hl ho ht (by omega) hw hc
      obtain ⟨q1, q2⟩ := hf.live hl
      have q3 := hf.water hl
      have q4 := hf.cold hl
      have := ih hr q1 (by omega) (by omega) (by push_cast at htk; omega) (by omega) (by omega)
      have e : o + (f (l :: ls)).2 + (times f k (f (l :: ls)).1).2.1 = o + ((f (l :: ls)).2 + (times f k (f (l :: ls)).1).2.1) := by omega
      have e' : t + d + d * (times f k (f (l :: ls)).1).2.2 = t + d * (1 + (times f k (f (l :: ls)).1).2.2) := by rw [Int.mul_add, Int.mul_one]; omega
      rw [e, e'] at this
      exact this
end Go.Proofs.YtpldcikmlpegpaaDoor.Plain
end
section
namespace Go.Proofs.YtpldcikmlpegpaaDoor.Plain
open Go.RowKit Go.Proofs.YtpldcikmlpegpaaDoor.PB Go.Proofs.YtpldcikmlpegpaaDoor.Col Go.Proofs.YtpldcikmlpegpaaDoorW.PrintWords Go.Proofs.YtpldcikmlpegpaaDoorW.PrintMore
def StepOk (k m cd : Int) : Prop := (1 ≤ k ∧ k ≤ 6) ∧ (0 ≤ m ∧ m ≤ 65536) ∧ (0 ≤ cd ∧ cd ≤ if k = 1 then 65536 else 0)
instance (k m cd : Int) : Decidable (StepOk k m cd) := inferInstanceAs (Decidable (_ ∧ _))
def doStep (L : List Ly) (k m cd : Int) : List Ly × Int :=
  if k = 1 then (if 0 < m then (⟨m, 0, cd⟩ :: L, 0) else (L, 0)) else if k = 2 then flow L m
  else if k = 3 then ((times melt1 m.toNat L).1, (times melt1 m.toNat L).2.1)
  else if k = 4 then (freeze L m, 0) else ((times vanish1 m.toNat L).1, (times vanish1 m.toNat L).2.1)
theorem Valid.bounds {L : List Ly} (h : Valid L) : water L + 0 ≤ 549755813888 ∧ cold L ≤ 549755813888 := by
  obtain ⟨_, _, a, b⟩ := h
  omega
end Go.Proofs.YtpldcikmlpegpaaDoor.Plain
end
section
namespace Go.Proofs.YtpldcikmlpegpaaDoor.Plain
open Go.RowKit Go.Proofs.YtpldcikmlpegpaaDoor.PB Go.Proofs.YtpldcikmlpegpaaDoor.Col Go.Proofs.YtpldcikmlpegpaaDoorW.PrintWords Go.Proofs.YtpldcikmlpegpaaDoorW.PrintMore
def Ev {α : Type} (f : Nat → Option α) (r : α) : Prop := ∃ k0, ∀ k, k0 ≤ k → f k = some r
theorem Ev.pure {α : Type} {f : Nat → Option α} {r : α} (h : ∀ k, f k = some r) : Ev f r := ⟨0, fun k _ => h k⟩
theorem Ev.from {α : Type} {f : Nat → Option α} {r : α} (k0 : Nat) (h : ∀ k, k0 ≤ k → f k = some r) : Ev f r := ⟨k0, h⟩
theorem Ev.step {α : Type} {f g : Nat → Option α} {r : α} (h : ∀ k, f (k + 1) = g k) (hg : Ev g r) : Ev f r := by
  obtain ⟨k0, hk⟩ := hg
  refine ⟨k0 + 1, fun k hle => ?_⟩
  obtain ⟨k, rfl⟩ : ∃ j, k = j + 1 := ⟨k - 1, by omega⟩
  rw [h k, hk k (by omega)]
theorem Ev.same {α : Type} {f g : Nat → Option α} {r : α} (h : ∀ k, f k = g k) (hg : Ev g r) : Ev f r := by
  obtain ⟨k0, hk⟩ := hg
  exact ⟨k0, fun k hle => by rw [h k, hk k hle]⟩
theorem Ev.bind {α β : Type} {f : Nat → Option α} {g : Nat → α → Option β} {a : α} {r : β} (hf : Ev f a) (hg : Ev (fun k => g k a) r) : Ev (fun k => (f k).bind (g k)) r := by
  obtain ⟨k0, h0⟩ := hf
  obtain ⟨k1, h1⟩ := hg
  exact ⟨max k0 k1, fun k hk => by simp only [h0 k (by omega), Option.bind_some]; exact h1 k (by omega)⟩
theorem Ev.some {α : Type} {f : Nat → Option α} {r : α} (h : Ev f r) : ∃ k, f k = Option.some r := by
  obtain ⟨k0, h0⟩ := h
  exact ⟨k0, h0 k0 (Nat.le_refl _)⟩
theorem within_eq (a b c : Int) : snowlineref02_within.f a b c = some (decide (b ≤ a ∧ a ≤ c)) := from_eq a b c
theorem layer_eq (a b c : Int) : snowlineref02_layer.f a b c = some (decide (Right ⟨a, b, c⟩)) := by
  unfold snowlineref02_layer.f
  simp only [within_eq, Option.bind_some, snowlineref02_hold.f, decide_eq_true_eq]
  by_cases h1 : 1 ≤ a ∧ a ≤ 65536
  · have ht : wrap64 (Int.tdiv a 20) = a / 20 := by rw [Int.tdiv_eq_ediv_of_nonneg (by omega), wr _ (by omega)]
    rw [if_pos h1, ht]
    by_cases h3 : 0 ≤ b ∧ b ≤ a / 20
    · rw [if_pos h3]
      by_cases h2 : 0 ≤ c ∧ c ≤ 65536
      · rw [if_pos h2]
        by_cases h4 : b = 0
        · rw [if_pos h4]; exact some_true ⟨h1.1, h1.2, h2.1, h2.2, h3.1, h3.2, .inl h4⟩
        · rw [if_neg h4]
          by_cases h5 : c = 0
          · rw [show (c == 0) = true by simp [h5]]; exact some_true ⟨h1.1, h1.2, h2.1, h2.2, h3.1, h3.2, .inr h5⟩
          · rw [show (c == 0) = false by simp [h5]]; exact some_false (fun h => h.2.2.2.2.2.2.elim h4 h5)
      · rw [if_neg h2]; exact some_false (fun h => h2 ⟨h.2.2.1, h.2.2.2.1⟩)
    · rw [if_neg h3]; exact some_false (fun h => h3 ⟨h.2.2.2.2.1, h.2.2.2.2.2.1⟩)
  · rw [if_neg h1]; exact some_false (fun h => h1 ⟨h.1, h.2.1⟩)
theorem rwater_loop (ls : List Ly) (hr : Rights ls) (hl : ls.length ≤ 128) : ∀ (d k i : Nat) (w : Int), i + d = ls.length → d < k → 0 ≤ w → w ≤ 131072 * (i : Int) →
    snowlineref02_water.l0 k ls w (i : Int) = some (w + water (ls.drop i)) := by
  intro d
  induction d with
  | zero =>
    intro k i w hi hk _ _
    obtain ⟨k, rfl⟩ : ∃ j, k = j + 1 := ⟨k - 1, by omega⟩
    unfold snowlineref02_water.l0
    rw [if_neg (by omega), List.drop_eq_nil_of_le (by omega)]
    simp [water]
  | succ d ih =>
    intro k i w hi hk h0 h1
    obtain ⟨k, rfl⟩ : ∃ j, k = j + 1 := ⟨k - 1, by omega⟩
    have hm : Right (rd_T48 ls (i : Int)) := hr _ (by
      have : rd_T48 ls (i : Int) ∈ ls.drop i := by rw [rd_drop (by omega)]; exact List.mem_cons_self
      exact List.mem_of_mem_drop this)
    obtain ⟨a, b, cc, dd, e, f, g⟩ := hm
    unfold snowlineref02_water.l0
    rw [if_pos (by omega), if_pos (by omega)]
    rw [rd_drop (show i < ls.length by omega)]
    simp only [water]
    rw [wr (w + _) (by omega), wr (w + _ + _) (by omega), wr ((i : Int) + 1) (by omega)]
    have := ih k (i + 1) (w + (rd_T48 ls (i : Int)).f0 + (rd_T48 ls (i : Int)).f1) (by omega) (by omega) (by omega) (by push_cast; omega)
    push_cast at this
    rw [this]
    congr 1
    omega
theorem rwater_eq {k : Nat} {ls : List Ly} (hr : Rights ls) (hl : ls.length ≤ 128) (hk : ls.length < k) : snowlineref02_water.f k ls = some (water ls) := by
  unfold snowlineref02_water.f
  have := rwater_loop ls hr hl ls.length k 0 0 (by omega) hk (by omega) (by omega)
  simpa using this
theorem rcold_loop (ls : List Ly) (hr : Rights ls) (hl : ls.length ≤ 128) : ∀ (d k i : Nat) (w : Int), i + d = ls.length → d < k → 0 ≤ w → w ≤ 131072 * (i : Int) →
    snowlineref02_cold.l0 k ls w (i : Int) = some (w + cold (ls.drop i)) := by
  intro d
  induction d with
  | zero =>
    intro k i w hi hk _ _
    obtain ⟨k, rfl⟩ : ∃ j, k = j + 1 := ⟨k - 1, by omega⟩
    unfold snowlineref02_cold.l0
    rw [if_neg (by omega), List.drop_eq_nil_of_le (by omega)]
    simp [cold]
  | succ d ih =>
    intro k i w hi hk h0 h1
    obtain ⟨k, rfl⟩ : ∃ j, k = j + 1 := ⟨k - 1, by omega⟩
    have hm : Right (rd_T48 ls (i : Int)) := hr _ (by
      have : rd_T48 ls (i : Int) ∈ ls.drop i := by rw [rd_drop (by omega)]; exact List.mem_cons_self
      exact List.mem_of_mem_drop this)
    obtain ⟨a, b, cc, dd, e, f, g⟩ := hm
    unfold snowlineref02_cold.l0
    rw [if_pos (by omega), if_pos (by omega)]
    rw [rd_drop (show i < ls.length by omega)]
    simp only [cold]
    rw [wr (w + _) (by omega), wr ((i : Int) + 1) (by omega)]
    have := ih k (i + 1) (w + (rd_T48 ls (i : Int)).f2) (by omega) (by omega) (by omega) (by push_cast; omega)
    push_cast at this
    rw [this]
    congr 1
    omega
theorem rcold_eq {k : Nat} {ls : List Ly} (hr : Rights ls) (hl : ls.length ≤ 128) (hk : ls.length < k) : snowlineref02_cold.f k ls = some (cold ls) := by
  unfold snowlineref02_cold.f
  have := rcold_loop ls hr hl ls.length k 0 0 (by omega) hk (by omega) (by omega)
  simpa using this
theorem rcheck_loop (ls : List Ly) (hl : ls.length ≤ 64) : ∀ (d k i : Nat), i + d = ls.length → d + 65 < k → Rights (ls.take i) →
    snowlineref02_Check.l0 k (i : Int) ls = some (checkE ls) := by
  intro d
  induction d with
  | zero =>
    intro k i hi hk h
    obtain ⟨k, rfl⟩ : ∃ j, k = j + 1 := ⟨k - 1, by omega⟩
    rw [List.take_of_length_le (by omega)] at h
    unfold snowlineref02_Check.l0
    rw [if_neg (by omega), rwater_eq h (by omega) (by omega), rcold_eq h (by omega) (by omega)]
    simp only [Option.bind_some, checkE]
    by_cases hw : water ls > 65536
    · rw [if_pos hw, if_neg (fun hv : Valid ls => by have := hv.2.2.1; omega)]
    · rw [if_neg hw]
      by_cases hc : cold ls > 65536
      · rw [if_pos hc, if_neg (fun hv : Valid ls => by have := hv.2.2.2; omega)]
      · rw [if_neg hc, if_pos (show Valid ls from ⟨hl, h, by omega, by omega⟩)]
  | succ d ih =>
    intro k i hi hk h
    obtain ⟨k, rfl⟩ : ∃ j, k = j + 1 := ⟨k - 1, by omega⟩
    unfold snowlineref02_Check.l0
    rw [if_pos (by omega), if_pos (by omega), layer_eq]
    simp only [Option.bind_some, decide_eq_true_eq]
    have hd := rd_drop (show i < ls.length by omega)
    by_cases hr : Right (rd_T48 ls (i : Int))
    · rw [if_pos (by exact hr), wr ((i : Int) + 1) (by omega)]
      have := ih k (i + 1) (by omega) (by omega) (by
        intro x hx
        rw [List.take_add_one] at hx
        rcases List.mem_append.mp hx with hx | hx
        · exact h x hx
        · have e : ls[i]?.toList = [rd_T48 ls (i : Int)] := by
            simp [rd_T48, List.getD_eq_getElem?_getD, show i < ls.length by omega]
          rw [e] at hx
          rw [List.mem_singleton.mp hx]
          exact hr)
      push_cast at this
      exact this
    · rw [if_neg (by exact hr), checkE, if_neg]
      intro hv
      exact hr (hv.2.1 _ (by
        have : rd_T48 ls (i : Int) ∈ ls.drop i := by rw [hd]; exact List.mem_cons_self
        exact List.mem_of_mem_drop this))
theorem rcheck_eq {k : Nat} (hk : 130 ≤ k) (ls : List Ly) : snowlineref02_Check.f k ls = some (checkE ls) := by
  unfold snowlineref02_Check.f
  by_cases h : (ls.length : Int) > 64
  · rw [if_pos h, checkE, if_neg (by rintro ⟨h1, _⟩; omega)]
  · rw [if_neg h]
    exact rcheck_loop ls (by omega) ls.length k 0 (by omega) (by omega) (by intro x hx; simp at hx)
theorem flow_one {L : List Ly} (h : Fits L) : flow L 1 = flow1 L := by
  have := flow_succ (m := 0) h (Int.le_refl 0)
  simp only [Int.zero_add, flow_zero, Int.add_zero] at this
  exact this
theorem rd_mid (pre : List Ly) (l : Ly) (post : List Ly) : rd_T48 (pre ++ l :: post) ((pre.length : Nat) : Int) = l := by
  show (pre ++ l :: post).getD ((pre.length : Nat) : Int).toNat z48 = l
  rw [Int.toNat_natCast]
  exact get_mid pre l post
theorem setn_mid (pre : List Ly) (l x : Ly) (post : List Ly) : (pre ++ l :: post).set ((pre.length : Nat) : Int).toNat x = pre ++ x :: post := by
  rw [Int.toNat_natCast]
  exact set_mid pre l x post
theorem flow_unit (m : Int) (r : List Ly × Int) : ∀ (L pre : List Ly) (ran n : Int), Fits L → water L ≤ 1099511627776 → cold L ≤ 1099511627776 → pre.length + L.length ≤ 1099511627776 → 0 ≤ ran → ran ≤ 1099511627776 → 0 ≤ n → n ≤ 1099511627776 →
    Ev (fun k => snowlineref02_flow.l0 k m (pre ++ (flow1 L).1) (ran + (flow1 L).2) (n + 1)) r → Ev (fun k => snowlineref02_flow.l1 k m (pre ++ L) ran n (pre.length : Int)) r := by
  intro L
  induction L with
  | nil =>
    intro pre ran n _ _ _ hp h0 h1 h2 h3 h
    simp only [List.length_nil] at hp
    refine Ev.step (g := fun k => snowlineref02_flow.j2 k m (pre ++ []) ran n (pre.length : Int)) (fun k => ?_) ?_
    · simp only [snowlineref02_flow.l1]
      rw [if_neg (by simp)]
    · refine Ev.step (fun k => ?_) h
      simp only [snowlineref02_flow.j2, flow1]
      rw [if_pos (by simp), wr _ (by omega), wr _ (by omega)]
  | cons l ls ih =>
    intro pre ran n hf hw hc hp h0 h1 h2 h3 h
    have w0 := water_nonneg hf.tail
    have c0 := cold_nonneg hf.tail
    have hlen : (pre.length : Int) < ((pre ++ l :: ls).length : Int) := by simp; omega
    simp only [water, cold, List.length_cons] at hw hc hp
    obtain ⟨a, b, c, d⟩ := hf.head
    have hh : ∀ x y, snowlineref02_hold.f l.f0 x y = some (l.f0 / 20) := fun x y => by
      unfold snowlineref02_hold.f
      rw [Int.tdiv_eq_ediv_of_nonneg a, wr _ (by omega)]
    have last : ¬ (l.f2 = 0 ∧ l.f0 / 20 ≤ l.f1) → Ev (fun k => snowlineref02_flow.j2 k m (pre ++ l :: ls) ran n (pre.length : Int)) r := by
      intro hn
      simp only [flow1, if_neg hn] at h
      by_cases h9 : 0 < l.f2
      · simp only [if_pos h9, Int.add_zero] at h
        refine Ev.step (fun k => ?_) h
        simp only [snowlineref02_flow.j2]
        rw [if_neg (by omega), if_pos (by omega), if_pos hlen]
        simp only [rd_mid, setn_mid, Option.bind_some]
        rw [if_pos h9, wr (l.f0 + 1) (by omega), wr (l.f2 - 1) (by omega), wr (n + 1) (by omega)]
      · simp only [if_neg h9, Int.add_zero] at h
        refine Ev.step (fun k => ?_) h
        simp only [snowlineref02_flow.j2]
        rw [if_neg (by omega), if_pos (by omega), if_pos hlen]
        simp only [rd_mid, setn_mid]
        rw [if_neg (by omega), wr (l.f1 + 1) (by omega), wr (n + 1) (by omega)]
    by_cases hfull : l.f2 = 0 ∧ l.f0 / 20 ≤ l.f1
    · simp only [flow1, if_pos hfull] at h
      have e : pre ++ l :: ls = (pre ++ [l]) ++ ls := by simp
      have e2 : (pre.length : Int) + 1 = ((pre ++ [l]).length : Nat) := by simp
      refine Ev.step (g := fun k => snowlineref02_flow.l1 k m ((pre ++ [l]) ++ ls) ran n (((pre ++ [l]).length : Nat) : Int)) (fun k => ?_) ?_
      · simp only [snowlineref02_flow.l1]
        rw [if_pos hlen, if_pos (by omega)]
        simp only [rd_mid, hh, Option.bind_some]
        rw [if_pos hfull.1, if_pos (show l.f1 ≥ l.f0 / 20 from hfull.2), wr _ (by omega), ← e2, e]
      · refine ih (pre ++ [l]) ran n hf.tail (by omega) (by omega) (by simp; omega) h0 h1 h2 h3 ?_
        simpa using h
    · refine Ev.step (fun k => ?_) (last hfull)
      simp only [snowlineref02_flow.l1]
      rw [if_pos hlen, if_pos (by omega)]
      simp only [rd_mid, hh, Option.bind_some]
      by_cases hz : l.f2 = 0
      · rw [if_pos hz, if_neg (by omega)]
      · rw [if_neg hz]
theorem flow1_more (L : List Ly) : water L ≤ water (flow1 L).1 := by
  induction L with
  | nil => simp [flow1]
  | cons l ls ih =>
    simp only [flow1]
    split
    · simp only [water]
      omega
    · split
      · simp only [water]; omega
      · simp only [water]; omega
theorem rflow_loop (m : Int) : ∀ (d : Nat) (L : List Ly) (ran n : Int), Fits L → water L + d ≤ 549755813888 → cold L ≤ 549755813888 → L.length ≤ 549755813888 → 0 ≤ ran → ran + d ≤ 549755813888 → 0 ≤ n → n + d = m → m ≤ 549755813888 →
    Ev (fun k => snowlineref02_flow.l0 k m L ran n) ((flow L d).1, ran + (flow L d).2) := by
  intro d
  induction d with
  | zero =>
    intro L ran n hf hw hc hl h0 h1 h2 h3 h4
    refine Ev.from 1 (fun k hk => ?_)
    obtain ⟨k, rfl⟩ : ∃ j, k = j + 1 := ⟨k - 1, by omega⟩
    simp only [snowlineref02_flow.l0]
    rw [if_neg (by omega)]
    simp [flow_zero]
  | succ d ih =>
    intro L ran n hf hw hc hl h0 h1 h2 h3 h4
    have hs := flow_succ (m := (d : Int)) hf (by omega)
    have e1 := flow_one hf
    have k1 := flow_fit (m := 1) hf (by omega)
    have k2 := flow_water L 1
    have k3 := flow_cold (m := 1) hf (by omega)
    have k4 := flow_length L 1
    rw [e1] at k1 k2 k3 k4
    have k5 := water_nonneg k1.1
    have k6 : (flow1 L).2 ≤ 1 := by
      have := k1.2
      have hw1 := flow1_more L
      omega
    have hi := ih (flow1 L).1 (ran + (flow1 L).2) (n + 1) k1.1 (by push_cast at hw h1 h3; omega) (by omega) (by omega) (by omega) (by push_cast at hw h1 h3; omega) (by omega) (by push_cast at hw h1 h3; omega) h4
    have e : ((flow L ((d + 1 : Nat) : Int)).1, ran + (flow L ((d + 1 : Nat) : Int)).2) = ((flow (flow1 L).1 d).1, ran + (flow1 L).2 + (flow (flow1 L).1 d).2) := by
      push_cast
      rw [hs]
      simp only [Int.add_assoc]
    rw [e]
    have hu := flow_unit m _ L [] ran n hf (by push_cast at hw h1 h3; omega) (by omega) (by simp; omega) h0 (by push_cast at hw h1 h3; omega) h2 (by omega) hi
    refine Ev.step (fun k => ?_) hu
    simp only [snowlineref02_flow.l0]
    rw [if_pos (by push_cast at h3; omega)]
    rfl
theorem rflow_eq {L : List Ly} {m : Int} (hf : Fits L) (hm : 0 ≤ m) (hw : water L + m ≤ 549755813888) (hc : cold L ≤ 549755813888) (hl : L.length ≤ 4096) : Ev (fun k => snowlineref02_flow.f k L m) (flow L m) := by
  have w0 := water_nonneg hf
  have := rflow_loop m m.toNat L 0 0 hf (by omega) hc (by omega) (by omega) (by omega) (by omega) (by omega) (by omega)
  rw [Int.toNat_of_nonneg hm] at this
  refine Ev.same (fun k => ?_) (by simpa using this)
  simp only [snowlineref02_flow.f, Option.bind_some, List.nil_append, List.length_nil]
  rw [if_pos (by omega)]
end Go.Proofs.YtpldcikmlpegpaaDoor.Plain
end
section
namespace Go.Proofs.YtpldcikmlpegpaaDoor.Plain
open Go.RowKit Go.Proofs.YtpldcikmlpegpaaDoor.PB Go.Proofs.YtpldcikmlpegpaaDoor.Col Go.Proofs.YtpldcikmlpegpaaDoorW.PrintWords Go.Proofs.YtpldcikmlpegpaaDoorW.PrintMore
theorem rd_zero (l : Ly) (ls : List Ly) : rd_T48 (l :: ls) 0 = l := rfl
theorem rlose_eq {l : Ly} {ls : List Ly} {more : Int} (hl : Live (l :: ls)) (hm : 0 ≤ more) (hm1 : more ≤ 1) (hw : water (l :: ls) ≤ 274877906944) (hc : cold (l :: ls) ≤ 274877906944) (hn : (l :: ls).length ≤ 4096) :
    Ev (fun k => snowlineref02_lose.f k (l :: ls) more) (lose1 l ls more) := by
  obtain ⟨⟨a, b, c, d⟩, h1⟩ := hl.head
  have w0 := water_nonneg hl.tail.fits
  have c0 := cold_nonneg hl.tail.fits
  simp only [water, cold, List.length_cons] at hw hc hn
  obtain ⟨r0, r1⟩ := lose1_rest (more := more) hl.head.1 hl.head.2 hm
  have hd : 0 ≤ l.f0 - 1 := by omega
  have hh : ∀ x y, snowlineref02_hold.f (l.f0 - 1) x y = some ((l.f0 - 1) / 20) := fun x y => by
    unfold snowlineref02_hold.f
    rw [Int.tdiv_eq_ediv_of_nonneg hd, wr _ (by omega)]
  have e1 : wrap64 (l.f0 - 1) = l.f0 - 1 := wr _ (by omega)
  have e2 : wrap64 (l.f1 + more) = l.f1 + more := wr _ (by omega)
  by_cases hz : l.f0 - 1 = 0
  · have hf := rflow_eq (m := l.f1 + more) hl.tail.fits (by omega) (by omega) (by omega) (by omega)
    have e3 : lose1 l ls more = flow ls (l.f1 + more) := by
      simp only [lose1]
      rw [if_pos hz, show l.f1 + more - min (l.f1 + more) ((l.f0 - 1) / 20) = l.f1 + more by omega]
    rw [e3]
    refine Ev.same (fun k => ?_) (Ev.bind (g := fun _ bt => some (bt.1, bt.2)) hf (Ev.pure fun _ => rfl))
    simp only [snowlineref02_lose.f, rd_zero, e1, e2, hh, Option.bind_some, List.drop_one, List.tail_cons, List.nil_append, List.length_nil, List.length_cons]
    rw [if_pos (by omega), if_pos (by omega), if_pos (by omega), if_pos hz]
  · have hf := rflow_eq (m := l.f1 + more - min (l.f1 + more) ((l.f0 - 1) / 20)) hl.tail.fits r0 (by omega) (by omega) (by omega)
    have e3 : lose1 l ls more = (⟨l.f0 - 1, min (l.f1 + more) ((l.f0 - 1) / 20), l.f2⟩ :: (flow ls (l.f1 + more - min (l.f1 + more) ((l.f0 - 1) / 20))).1, (flow ls (l.f1 + more - min (l.f1 + more) ((l.f0 - 1) / 20))).2) := by
      simp only [lose1]
      rw [if_neg hz]
    have hfl := flow_length ls (l.f1 + more - min (l.f1 + more) ((l.f0 - 1) / 20))
    rw [e3]
    refine Ev.same (fun k => ?_) (Ev.bind (g := fun _ bt => if ([(⟨l.f0 - 1, min (l.f1 + more) ((l.f0 - 1) / 20), l.f2⟩ : Ly)] : List Ly).length + bt.1.length < 5864062014805 then some ((⟨l.f0 - 1, min (l.f1 + more) ((l.f0 - 1) / 20), l.f2⟩ : Ly) :: bt.1, bt.2) else none) hf (Ev.pure fun _ => ?_))
    · simp only [snowlineref02_lose.f, rd_zero, e1, e2, hh, mn_min, Option.bind_some, List.drop_one, List.tail_cons, List.nil_append, List.length_nil, List.length_cons]
      rw [if_pos (by omega), if_pos (by omega), if_pos (by omega), if_neg hz, wr (l.f1 + more - _) (by omega)]
      rfl
    · rw [if_pos (by simp only [List.length_singleton]; omega)]
theorem rmelt_loop (m cd : Int) : ∀ (d : Nat) (L : List Ly) (ran t n : Int), Live L → water L ≤ 274877906944 → cold L ≤ 274877906944 → L.length ≤ 4096 → 0 ≤ ran → ran + water L ≤ 274877906944 → 0 ≤ n → n + d = m → m ≤ 65536 →
    Ev (fun k => snowlineref02_Do.l1 k ran t L n 3 m cd) ((times melt1 d L).1, ran + (times melt1 d L).2.1, t) := by
  have stop : ∀ (L : List Ly) (ran t n : Int), Ev (fun k => snowlineref02_Do.j3 k ran t L n false 3 m cd) (L, ran, t) := fun L ran t n => by
    refine Ev.from 1 (fun k hk => ?_)
    obtain ⟨k, rfl⟩ : ∃ j, k = j + 1 := ⟨k - 1, by omega⟩
    simp only [snowlineref02_Do.j3]
    rw [if_neg (by simp)]
  intro d
  induction d with
  | zero =>
    intro L ran t n _ _ _ _ _ _ _ hn _
    refine Ev.step (fun k => ?_) (by simpa [times] using stop L ran t n)
    simp only [snowlineref02_Do.l1]
    rw [if_neg (by omega)]
  | succ d ih =>
    intro L ran t n hl hw hc hlen h0 h1 h2 h3 h4
    cases L with
    | nil =>
      refine Ev.step (fun k => ?_) (by simpa [times] using stop [] ran t n)
      simp only [snowlineref02_Do.l1]
      rw [if_pos (by push_cast at h3; omega), if_neg (by simp)]
    | cons l ls =>
      have q1 := melt_round.live hl
      have q2 := melt_round.water hl
      have q3 := melt_round.cold hl
      have q4 := melt_round.len hl
      have q5 := water_nonneg q1.1.fits
      have hi := ih (melt1 (l :: ls)).1 (ran + (melt1 (l :: ls)).2) t (n + 1) q1.1 (by omega) (by omega) (by omega) (by omega) (by omega) (by omega) (by push_cast at h3; omega) h4
      have e : ((times melt1 (d + 1) (l :: ls)).1, ran + (times melt1 (d + 1) (l :: ls)).2.1, t) = ((times melt1 d (melt1 (l :: ls)).1).1, ran + (melt1 (l :: ls)).2 + (times melt1 d (melt1 (l :: ls)).1).2.1, t) := by
        simp only [times, Int.add_assoc]
      rw [e]
      refine Ev.step (g := fun k => snowlineref02_Do.j3 k ran t (l :: ls) n true 3 m cd) (fun k => ?_) ?_
      · simp only [snowlineref02_Do.l1]
        rw [if_pos (by push_cast at h3; omega), if_pos (by simp only [List.length_cons]; omega)]
        rfl
      · obtain ⟨⟨a, b, c, dd⟩, i1⟩ := hl.head
        have c0 := cold_nonneg hl.tail.fits
        have hc' := hc
        simp only [cold] at hc'
        by_cases h9 : 0 < l.f2
        · have em : melt1 (l :: ls) = (⟨l.f0, l.f1, l.f2 - 1⟩ :: ls, 0) := by simp only [melt1, if_pos h9]
          rw [em] at hi ⊢
          refine Ev.step (fun k => ?_) hi
          simp only [snowlineref02_Do.j3]
          rw [if_pos trivial, if_pos trivial, if_pos (by simp only [List.length_cons]; omega), if_pos (show (rd_T48 (l :: ls) 0).f2 > 0 from h9), wr (ran + 0) (by omega), wr (n + 1) (by omega)]
          show snowlineref02_Do.l1 k (ran + 0) t (⟨l.f0, l.f1, wrap64 (l.f2 - 1)⟩ :: ls) (n + 1) 3 m cd = _
          rw [wr (l.f2 - 1) (by omega)]
        · have em : melt1 (l :: ls) = lose1 l ls 1 := by simp only [melt1, if_neg h9]
          rw [em] at hi ⊢ q1 q2 q3 q4 q5
          have hlo := rlose_eq hl (show (0 : Int) ≤ 1 by omega) (by omega) hw hc hlen
          refine Ev.step (fun k => ?_) (Ev.bind (g := fun k bt => snowlineref02_Do.l1 k (wrap64 (ran + bt.2)) t bt.1 (wrap64 (n + 1)) 3 m cd) hlo ?_)
          · simp only [snowlineref02_Do.j3]
            rw [if_pos trivial, if_pos trivial, if_pos (by simp only [List.length_cons]; omega), if_neg (show ¬ (rd_T48 (l :: ls) 0).f2 > 0 from h9)]
          · rw [wr (ran + _) (by omega), wr (n + 1) (by omega)]
            exact hi
theorem rvanish_loop (kind m cd : Int) (hk : kind = 5 ∨ kind = 6) : ∀ (d : Nat) (L : List Ly) (ran t n : Int), Live L → water L ≤ 274877906944 → cold L ≤ 274877906944 → L.length ≤ 4096 → 0 ≤ ran → ran + water L ≤ 274877906944 → 0 ≤ n → n + d = m → m ≤ 65536 → 0 ≤ t → t ≤ n →
    Ev (fun k => snowlineref02_Do.l1 k ran t L n kind m cd) ((times vanish1 d L).1, ran + (times vanish1 d L).2.1, t + (times vanish1 d L).2.2) := by
  have stop : ∀ (L : List Ly) (ran t n : Int), Ev (fun k => snowlineref02_Do.j3 k ran t L n false kind m cd) (L, ran, t) := fun L ran t n => by
    refine Ev.from 1 (fun k hk => ?_)
    obtain ⟨k, rfl⟩ : ∃ j, k = j + 1 := ⟨k - 1, by omega⟩
    simp only [snowlineref02_Do.j3]
    rw [if_neg (by simp)]
  have hne : (kind != 1) = true := by rcases hk with rfl | rfl <;> rfl
  have hne3 : ¬ kind = 3 := by omega
  intro d
  induction d with
  | zero =>
    intro L ran t n _ _ _ _ _ _ _ hn _ _ _
    refine Ev.step (fun k => ?_) (by simpa [times] using stop L ran t n)
    simp only [snowlineref02_Do.l1]
    rw [if_neg (by omega)]
  | succ d ih =>
    intro L ran t n hl hw hc hlen h0 h1 h2 h3 h4 h5 h6
    cases L with
    | nil =>
      refine Ev.step (fun k => ?_) (by simpa [times] using stop [] ran t n)
      simp only [snowlineref02_Do.l1]
      rw [if_pos (by push_cast at h3; omega), if_neg (by simp)]
    | cons l ls =>
      have q1 := vanish_round.live hl
      have q2 := vanish_round.water hl
      have q3 := vanish_round.cold hl
      have q4 := vanish_round.len hl
      have q5 := water_nonneg q1.1.fits
      have hi := ih (vanish1 (l :: ls)).1 (ran + (vanish1 (l :: ls)).2) (t + 1) (n + 1) q1.1 (by omega) (by omega) (by omega) (by omega) (by omega) (by omega) (by push_cast at h3; omega) h4 (by omega) (by omega)
      have e : ((times vanish1 (d + 1) (l :: ls)).1, ran + (times vanish1 (d + 1) (l :: ls)).2.1, t + (times vanish1 (d + 1) (l :: ls)).2.2) = ((times vanish1 d (vanish1 (l :: ls)).1).1, ran + (vanish1 (l :: ls)).2 + (times vanish1 d (vanish1 (l :: ls)).1).2.1, t + 1 + (times vanish1 d (vanish1 (l :: ls)).1).2.2) := by
        simp only [times, Int.add_assoc]
      rw [e]
      refine Ev.step (g := fun k => snowlineref02_Do.j3 k ran t (l :: ls) n true kind m cd) (fun k => ?_) ?_
      · simp only [snowlineref02_Do.l1]
        rw [if_pos (by push_cast at h3; omega), if_pos (by simp only [List.length_cons]; omega), hne]
      · have em : vanish1 (l :: ls) = lose1 l ls 0 := rfl
        rw [em] at hi ⊢ q1 q2 q3 q4 q5
        have hlo := rlose_eq hl (show (0 : Int) ≤ 0 by omega) (by omega) hw hc hlen
        refine Ev.step (fun k => ?_) (Ev.bind (g := fun k bt => snowlineref02_Do.l1 k (wrap64 (ran + bt.2)) (wrap64 (t + 1)) bt.1 (wrap64 (n + 1)) kind m cd) hlo ?_)
        · simp only [snowlineref02_Do.j3]
          rw [if_pos trivial, if_neg hne3]
        · rw [wr (ran + _) (by omega), wr (n + 1) (by omega), wr (t + 1) (by omega)]
          exact hi
end Go.Proofs.YtpldcikmlpegpaaDoor.Plain
end
section
namespace Go.Proofs.YtpldcikmlpegpaaDoor.Plain
open Go.RowKit Go.Proofs.YtpldcikmlpegpaaDoor.PB Go.Proofs.YtpldcikmlpegpaaDoor.Col Go.Proofs.YtpldcikmlpegpaaDoorW.PrintWords Go.Proofs.YtpldcikmlpegpaaDoorW.PrintMore
theorem rfrost_loop : ∀ (ls pre : List Ly) (m : Int), Fits ls → 0 ≤ m → m ≤ 274877906944 → water ls ≤ 274877906944 → pre.length + ls.length ≤ 4096 →
    (∀ x xs, pre ++ (freezes ls m).1 = x :: xs → -274877906944 ≤ x.f2 ∧ x.f2 ≤ 274877906944) → 0 ≤ (freezes ls m).2 → (freezes ls m).2 ≤ 274877906944 →
    Ev (fun k => snowlineref02_Do.l0 k (pre ++ ls) m (pre.length : Int)) (chill (pre ++ (freezes ls m).1) (freezes ls m).2, 0, 0) := by
  intro ls
  induction ls with
  | nil =>
    intro pre m _ h0 h1 _ hp hx r0 r1
    simp only [freezes, List.append_nil] at hx r0 r1 ⊢
    refine Ev.from 1 (fun k hk => ?_)
    obtain ⟨k, rfl⟩ : ∃ j, k = j + 1 := ⟨k - 1, by omega⟩
    simp only [snowlineref02_Do.l0]
    rw [if_neg (by omega)]
    cases pre with
    | nil => rfl
    | cons x xs =>
      obtain ⟨b0, b1⟩ := hx x xs rfl
      rw [if_pos (by simp only [List.length_cons]; omega), if_pos (by simp only [List.length_cons]; omega)]
      show some ((⟨x.f0, x.f1, wrap64 (x.f2 + m)⟩ :: xs : List Ly), (0 : Int), (0 : Int)) = _
      rw [wr _ (by omega)]
      rfl
  | cons l ls ih =>
    intro pre m hf h0 h1 hw hp hx r0 r1
    have w0 := water_nonneg hf.tail
    simp only [water, List.length_cons] at hw hp
    obtain ⟨a, b, c, d⟩ := hf.head
    simp only [freezes] at hx r0 r1 ⊢
    have e2 : pre ++ (⟨l.f0 + min m l.f1, l.f1 - min m l.f1, l.f2⟩ : Ly) :: (freezes ls (m - min m l.f1)).1 = (pre ++ [⟨l.f0 + min m l.f1, l.f1 - min m l.f1, l.f2⟩]) ++ (freezes ls (m - min m l.f1)).1 := by simp
    rw [e2] at hx ⊢
    have hi := ih (pre ++ [⟨l.f0 + min m l.f1, l.f1 - min m l.f1, l.f2⟩]) (m - min m l.f1) hf.tail (by omega) (by omega) (by omega) (by simp; omega) hx r0 r1
    refine Ev.step (fun k => ?_) hi
    simp only [snowlineref02_Do.l0]
    rw [if_pos (by simp; omega), if_pos (by omega)]
    simp only [rd_mid, setn_mid, Option.bind_some, mn_min]
    rw [wr (l.f1 - min m l.f1) (by omega), wr (l.f0 + min m l.f1) (by omega), wr (m - min m l.f1) (by omega), wr ((pre.length : Int) + 1) (by omega)]
    have e3 : pre ++ (⟨l.f0 + min m l.f1, l.f1 - min m l.f1, l.f2⟩ : Ly) :: ls = (pre ++ [⟨l.f0 + min m l.f1, l.f1 - min m l.f1, l.f2⟩]) ++ ls := by simp
    have e4 : (pre.length : Int) + 1 = ((pre ++ [(⟨l.f0 + min m l.f1, l.f1 - min m l.f1, l.f2⟩ : Ly)]).length : Nat) := by simp
    rw [e3, e4]
def tookOf (L : List Ly) (k m : Int) : Int := if k = 5 ∨ k = 6 then (times vanish1 m.toNat L).2.2 else 0
theorem do_eq {L : List Ly} {k m cd : Int} (hv : Valid L) (hs : StepOk k m cd) : Ev (fun n => snowlineref02_Do.f n L k m cd) ((doStep L k m cd).1, (doStep L k m cd).2, tookOf L k m) := by
  obtain ⟨hk, hm, hc⟩ := hs
  obtain ⟨v0, _, v1, v2⟩ := id hv
  have hl := hv.live
  have hlen : L.length ≤ 4096 := by omega
  have w0 := water_nonneg hl.fits
  -- the loop's start, for what is neither snow that falls nor rain
  have start : ∀ {r : List Ly × Int × Int}, ¬ k = 2 → ¬ k = 4 → Ev (fun n => snowlineref02_Do.l1 n 0 0 L 0 k m cd) r → Ev (fun n => snowlineref02_Do.j0 n L 0 0 false k m cd) r := by
    intro r h2 h4 h
    refine Ev.step (fun n => ?_) h
    simp only [snowlineref02_Do.j0, Option.bind_some, List.nil_append, List.length_nil]
    rw [if_neg (by simp), if_neg h2, if_pos (by omega), if_neg h4]
  have start4 : ∀ {r : List Ly × Int × Int}, k = 4 → Ev (fun n => snowlineref02_Do.l0 n L m 0) r → Ev (fun n => snowlineref02_Do.j0 n L 0 0 false k m cd) r := by
    intro r h4 h
    refine Ev.step (fun n => ?_) h
    simp only [snowlineref02_Do.j0, Option.bind_some, List.nil_append, List.length_nil]
    rw [if_neg (by simp), if_neg (by omega), if_pos (by omega), if_pos h4]
  unfold tookOf
  by_cases k1 : k = 1
  · by_cases m0 : 0 < m
    · refine Ev.from 1 (fun n hn => ?_)
      obtain ⟨n, rfl⟩ : ∃ j, n = j + 1 := ⟨n - 1, by omega⟩
      unfold snowlineref02_Do.f doStep
      rw [if_pos k1, if_pos k1, if_pos m0, if_neg (by omega)]
      simp only [snowlineref02_Do.j0]
      rw [decide_eq_true (show m > 0 from m0), if_pos rfl]
      simp only [Option.bind_some, List.length_singleton]
      rw [if_pos (by omega)]
      rfl
    · have e : doStep L k m cd = (L, 0) := by unfold doStep; rw [if_pos k1, if_neg m0]
      rw [e, if_neg (by omega)]
      have : Ev (fun n => snowlineref02_Do.j0 n L 0 0 false k m cd) (L, 0, 0) := start (by omega) (by omega) (by
        refine Ev.from 2 (fun n hn => ?_)
        obtain ⟨n, rfl⟩ : ∃ j, n = j + 2 := ⟨n - 2, by omega⟩
        simp only [snowlineref02_Do.l1]
        rw [if_neg (by omega)]
        simp only [snowlineref02_Do.j3]
        rw [if_neg (by simp)])
      refine Ev.same (fun n => ?_) this
      unfold snowlineref02_Do.f
      rw [if_pos k1, decide_eq_false (show ¬ m > 0 from m0)]
  · have hf : ∀ n, snowlineref02_Do.f n L k m cd = snowlineref02_Do.j0 n L 0 0 false k m cd := fun n => by
      unfold snowlineref02_Do.f
      rw [if_neg k1]
    refine Ev.same hf ?_
    unfold doStep
    rw [if_neg k1]
    by_cases k2 : k = 2
    · rw [if_pos k2, if_neg (by omega)]
      refine Ev.step (fun n => ?_) (Ev.bind (g := fun _ bt => some (bt.1, bt.2, 0)) (rflow_eq hl.fits hm.1 (by omega) (by omega) hlen) (Ev.pure fun _ => rfl))
      simp only [snowlineref02_Do.j0]
      rw [if_neg (by simp), if_pos k2]
    · rw [if_neg k2]
      by_cases k3 : k = 3
      · refine start k2 (by omega) ?_
        rw [if_pos k3, if_neg (by omega), k3]
        have := rmelt_loop m cd m.toNat L 0 0 0 hl (by omega) (by omega) hlen (by omega) (by omega) (by omega) (by omega) hm.2
        simpa using this
      · rw [if_neg k3]
        by_cases k4 : k = 4
        · refine start4 k4 ?_
          rw [if_pos k4, if_neg (by omega)]
          obtain ⟨f1, f2, f3, f4, f5, f6⟩ := freezes_fit hl hm.1
          exact rfrost_loop L [] m hl.fits hm.1 (by omega) (by omega) (by simpa using hlen) (fun x xs hx => by
            have hx' : (freezes L m).1 = x :: xs := by simpa using hx
            rw [hx'] at f1 f5
            have c0 := cold_nonneg f1.tail.fits
            obtain ⟨_, _, _, d⟩ := f1.head.1
            simp only [cold] at f5
            omega) f2 (by omega)
        · refine start k2 k4 ?_
          rw [if_neg k4, if_pos (by omega)]
          have := rvanish_loop k m cd (by omega) m.toNat L 0 0 0 hl (by omega) (by omega) hlen (by omega) (by omega) (by omega) (by omega) hm.2 (by omega) (by omega)
          simpa using this
end Go.Proofs.YtpldcikmlpegpaaDoor.Plain
end
section
namespace Go.Proofs.YtpldcikmlpegpaaDoor.Plain
open Go.RowKit Go.Proofs.YtpldcikmlpegpaaDoor.PB
set_option maxRecDepth 100000 in
theorem sane_eq200 : snowlinelaw02_sane.f 200 = some true := by kernel_rfl
end Go.Proofs.YtpldcikmlpegpaaDoor.Plain
end
section
namespace Go.Proofs.YtpldcikmlpegpaaDoor.Plain
open Go.RowKit Go.Proofs.YtpldcikmlpegpaaDoor.PB Go.Proofs.YtpldcikmlpegpaaDoor.Col Go.Proofs.YtpldcikmlpegpaaDoorW.PrintWords Go.Proofs.YtpldcikmlpegpaaDoorW.PrintMore
theorem sane_eq : ∀ (k : Nat), 200 ≤ k → snowlinelaw02_sane.f k = some true := by
  intro k hk
  induction k with
  | zero => omega
  | succ k ih =>
    by_cases h : k + 1 = 200
    · rw [h]; exact sane_eq200
    · exact snowlinelaw02_sane.mono k _ (ih (by omega))
def room (l : Ly) : Int := l.f2 - l.f1 + (l.f0 + l.f2) / 20
def ready : List Ly → Int
  | [] => 0
  | l :: ls => room l + ready ls
theorem room_bound {l : Ly} (h : Fit l) : 0 ≤ room l ∧ room l ≤ 2 * l.f2 + l.f0 := by
  obtain ⟨a, b, c, d⟩ := h
  unfold room
  omega
theorem ready_loop (ls : List Ly) (hr : Rights ls) (hl : ls.length ≤ 64) : ∀ (d k i : Nat) (s : Int), i + d = ls.length → d < k → 0 ≤ s → s ≤ 262144 * (i : Int) →
    pack_Ready.l0 k s ls (ls.length : Int) (i : Int) = some (s + ready (ls.drop i), 0) := by
  intro d
  induction d with
  | zero =>
    intro k i s hi hk _ _
    obtain ⟨k, rfl⟩ : ∃ j, k = j + 1 := ⟨k - 1, by omega⟩
    unfold pack_Ready.l0
    rw [if_neg (by omega), List.drop_eq_nil_of_le (by omega)]
    simp [ready]
  | succ d ih =>
    intro k i s hi hk h0 h1
    obtain ⟨k, rfl⟩ : ∃ j, k = j + 1 := ⟨k - 1, by omega⟩
    have hm : Right (rd_T48 ls (i : Int)) := hr _ (by
      have : rd_T48 ls (i : Int) ∈ ls.drop i := by rw [rd_drop (by omega)]; exact List.mem_cons_self
      exact List.mem_of_mem_drop this)
    have hrb := room_bound hm.live.1
    obtain ⟨a, b, cc, dd, e, f, g⟩ := hm
    unfold pack_Ready.l0
    rw [if_pos (by omega), if_pos (by omega), if_pos (by omega)]
    rw [rd_drop (show i < ls.length by omega)]
    simp only [ready, pack_hold.f, Option.bind_some]
    have h9 : 0 ≤ (rd_T48 ls (i : Int)).f0 + (rd_T48 ls (i : Int)).f2 := by omega
    rw [wr ((rd_T48 ls (i : Int)).f0 + _) (by omega), Int.tdiv_eq_ediv_of_nonneg h9, wr (((rd_T48 ls (i : Int)).f0 + _) / 20) (by omega), wr ((rd_T48 ls (i : Int)).f2 - _) (by omega), wr (s + _) (by omega), wr (s + _ + _) (by omega), wr ((i : Int) + 1) (by omega)]
    have := ih k (i + 1) (s + ((rd_T48 ls (i : Int)).f2 - (rd_T48 ls (i : Int)).f1) + ((rd_T48 ls (i : Int)).f0 + (rd_T48 ls (i : Int)).f2) / 20) (by omega) (by omega) (by unfold room at hrb; omega) (by unfold room at hrb; push_cast; omega)
    push_cast at this
    rw [this]
    unfold room
    congr 2
    omega
theorem ready_eq {k : Nat} (hk : 130 ≤ k) (L : List Ly) : pack_Ready.f k L = some (if Valid L then (ready L, 0) else (0, 20)) := by
  unfold pack_Ready.f
  rw [check_eq hk]
  simp only [Option.bind_some]
  by_cases hv : Valid L
  · rw [checkE_pos hv, if_pos rfl, if_pos hv]
    have := ready_loop L hv.2.1 hv.1 L.length k 0 0 (by omega) (by have := hv.1; omega) (by omega) (by omega)
    simpa using this
  · rw [checkE_neg hv, if_neg (by omega), if_neg hv]
end Go.Proofs.YtpldcikmlpegpaaDoor.Plain
end
section
namespace Go.Proofs.YtpldcikmlpegpaaDoor.Plain
open Go.RowKit Go.Proofs.YtpldcikmlpegpaaDoor.PB Go.Proofs.YtpldcikmlpegpaaDoorW.PrintWords Go.Proofs.YtpldcikmlpegpaaDoorW.PrintMore
theorem few_one (l : List Ly) : Ev (fun k => snowlinelaw02_few.f k [(⟨l⟩ : S24)]) (decide (l.length ≤ 70)) := by
  refine Ev.from 2 (fun k hk => ?_)
  obtain ⟨k, rfl⟩ : ∃ j, k = j + 2 := ⟨k - 2, by omega⟩
  unfold snowlinelaw02_few.f
  unfold snowlinelaw02_few.l0
  rw [if_pos (by simp), if_pos (by omega)]
  by_cases h : l.length ≤ 70
  · rw [if_neg (show ¬ ((rd_T24 [(⟨l⟩ : S24)] 0).f0.length : Int) > 70 by show ¬ (l.length : Int) > 70; omega)]
    unfold snowlinelaw02_few.l0
    rw [if_neg (by show ¬ (wrap64 (0 + 1)) < _; rw [wr _ (by omega)]; simp)]
    exact some_true h
  · rw [if_pos (show ((rd_T24 [(⟨l⟩ : S24)] 0).f0.length : Int) > 70 by show (l.length : Int) > 70; omega)]
    exact some_false h
end Go.Proofs.YtpldcikmlpegpaaDoor.Plain
end
section
namespace Go.Proofs.YtpldcikmlpegpaaDoor.Plain
open Go.RowKit Go.Proofs.YtpldcikmlpegpaaDoor.PB Go.Proofs.YtpldcikmlpegpaaDoor.Col Go.Proofs.YtpldcikmlpegpaaDoorW.PrintWords Go.Proofs.YtpldcikmlpegpaaDoorW.PrintMore
def Dry (ls : List Ly) : Prop := ∀ l ∈ ls, l.f1 = 0 ∨ l.f2 = 0
theorem Dry.head {l : Ly} {ls : List Ly} (h : Dry (l :: ls)) : l.f1 = 0 ∨ l.f2 = 0 := h l List.mem_cons_self
theorem Dry.tail {l : Ly} {ls : List Ly} (h : Dry (l :: ls)) : Dry ls := fun x hx => h x (List.mem_cons_of_mem _ hx)
theorem Dry.nil : Dry [] := fun l h => by cases h
theorem Dry.cons {l : Ly} {ls : List Ly} (h : l.f1 = 0 ∨ l.f2 = 0) (hs : Dry ls) : Dry (l :: ls) := by
  intro x hx
  rcases List.mem_cons.mp hx with rfl | hx
  · exact h
  · exact hs x hx
theorem flow_dry {ls : List Ly} : ∀ {m : Int}, Fits ls → Dry ls → 0 ≤ m → Dry (flow ls m).1 := by
  induction ls with
  | nil => intro m _ _ _; exact Dry.nil
  | cons l ls ih =>
    intro m hf hd hm
    obtain ⟨a, b, c, d⟩ := hf.head
    have h1 := hd.head
    simp only [flow]
    split
    · refine Dry.cons ?_ (ih hf.tail hd.tail (into_fit hf.head hm).2)
      simp only [into]
      omega
    · exact hd
theorem lose1_dry {l : Ly} {ls : List Ly} {more : Int} (hl : Live (l :: ls)) (hd : Dry (l :: ls)) (hm : 0 ≤ more) (h : more = 0 ∨ l.f2 = 0) : Dry (lose1 l ls more).1 := by
  obtain ⟨⟨a, b, c, d⟩, i⟩ := hl.head
  obtain ⟨r0, r1⟩ := lose1_rest (more := more) hl.head.1 hl.head.2 hm
  have h1 := hd.head
  have hf := flow_dry hl.tail.fits hd.tail r0
  simp only [lose1]
  split
  · exact hf
  · refine Dry.cons ?_ hf
    dsimp only
    omega
theorem melt1_dry {l : Ly} {ls : List Ly} (hl : Live (l :: ls)) (hd : Dry (l :: ls)) : Dry (melt1 (l :: ls)).1 := by
  have h1 := hd.head
  simp only [melt1]
  split
  · refine Dry.cons ?_ hd.tail
    dsimp only
    omega
  · rename_i h
    obtain ⟨⟨a, b, c, d⟩, i⟩ := hl.head
    exact lose1_dry hl hd (by omega) (.inr (by omega))
theorem times_dry {f : List Ly → List Ly × Int} {d : Int} (hf : Round f d) (hd : ∀ {l : Ly} {ls : List Ly}, Live (l :: ls) → Dry (l :: ls) → Dry (f (l :: ls)).1) (n : Nat) : ∀ {L : List Ly}, Live L → Dry L → Dry (times f n L).1 := by
  induction n with
  | zero => intro L _ h; exact h
  | succ n ih =>
    intro L hl h
    cases L with
    | nil => exact h
    | cons l ls => exact ih (hf.live hl).1 (hd hl h)
theorem valid_of {L : List Ly} (h1 : L.length ≤ 64) (h2 : Live L) (h3 : Dry L) (h4 : water L ≤ 65536) (h5 : cold L ≤ 65536) : Valid L := by
  refine ⟨h1, ?_, h4, h5⟩
  clear h1
  induction L with
  | nil => intro x hx; cases hx
  | cons l ls ih =>
    have w0 := water_nonneg h2.tail.fits
    have c0 := cold_nonneg h2.tail.fits
    obtain ⟨⟨a, b, c, d⟩, i⟩ := h2.head
    have hd := h3.head
    simp only [water, cold] at h4 h5
    have hr := ih h2.tail h3.tail (by omega) (by omega)
    intro x hx
    rcases List.mem_cons.mp hx with rfl | hx
    · exact ⟨i, by omega, d, by omega, b, c, hd⟩
    · exact hr x hx
theorem Valid.dry {L : List Ly} (h : Valid L) : Dry L := fun l hl => (h.2.1 l hl).2.2.2.2.2.2
theorem melt_valid {L : List Ly} (h : Valid L) (n : Nat) : Valid (times melt1 n L).1 := by
  obtain ⟨a1, a2, a3, a4, a5, a6, a7, a8⟩ := times_keeps melt_round n h.live
  obtain ⟨v0, _, v1, v2⟩ := id h
  exact valid_of (by omega) a1 (times_dry melt_round melt1_dry n h.live h.dry) (by omega) (by omega)
def yl (L : List Ly) (n : Nat) : Int := (times melt1 n L).2.1
theorem yl_bound {L : List Ly} (h : Valid L) (n : Nat) : 0 ≤ yl L n ∧ yl L n ≤ water L := by
  obtain ⟨a1, a2, a3, a4, a5, a6, a7, a8⟩ := times_keeps melt_round n h.live
  have := water_nonneg a1.fits
  unfold yl
  omega
def yieldP (L : List Ly) (m : Int) : Int × Int := if Valid L then (if 0 ≤ m ∧ m ≤ 65536 then (yl L m.toNat, 0) else (0, 1)) else (0, 20)
theorem melts_st {L : List Ly} (hv : Valid L) (n : Nat) (hn : n ≤ 65537) : ∃ t, St (C.times C.melt n (C.of L)) (L.length + 1) (times melt1 n L).1 (yl L n) t := by
  obtain ⟨b1, b2⟩ := hv.bounds
  have := c_times (F := C.melt) (d := 0) (by omega) melt_round (fun h hl ho _ _ hw hc => c_melt h hl ho hw hc) n (st_of L) hv.live (Int.le_refl 0) (Int.le_refl 0) (by omega) b1 b2
  exact ⟨_, by simpa [yl] using this⟩
theorem yield_eq (L : List Ly) (m : Int) : pack_Yield.f L m = some (yieldP L m) := by
  unfold pack_Yield.f yieldP
  rw [check_eq (by omega)]
  simp only [Option.bind_some]
  by_cases hv : Valid L
  · rw [checkE_pos hv, if_pos rfl, if_pos hv]
    by_cases hm : 0 ≤ m ∧ m ≤ 65536
    · obtain ⟨t, hs⟩ := melts_st hv m.toNat (by omega)
      rw [if_pos hm, if_pos hm, hs.2.1]
    · rw [if_neg hm, if_neg hm]
  · rw [checkE_neg hv, if_neg (by omega), if_neg hv]
theorem ryield_eq (L : List Ly) (m : Int) : Ev (fun k => snowlineref02_Yield.f k L m) (yieldP L m) := by
  unfold yieldP
  by_cases hv : Valid L
  · rw [if_pos hv]
    by_cases hm : 0 ≤ m ∧ m ≤ 65536
    · rw [if_pos hm]
      have hs : StepOk 3 m 0 := ⟨by omega, hm, by omega⟩
      obtain ⟨k0, h0⟩ := do_eq hv hs
      refine Ev.from (max k0 200) (fun k hk => ?_)
      unfold snowlineref02_Yield.f
      rw [rcheck_eq (by omega), within_eq, checkE_pos hv]
      simp only [Option.bind_some, if_true, decide_eq_true hm]
      rw [show snowlineref02_Do.f k L 3 m 0 = _ from h0 k (by omega)]
      rfl
    · rw [if_neg hm]
      refine Ev.from 200 (fun k hk => ?_)
      unfold snowlineref02_Yield.f
      rw [rcheck_eq (by omega), within_eq, checkE_pos hv]
      simp only [Option.bind_some, if_true, decide_eq_false hm]
      rfl
  · rw [if_neg hv]
    refine Ev.from 200 (fun k hk => ?_)
    unfold snowlineref02_Yield.f
    rw [rcheck_eq (by omega), checkE_neg hv]
    rfl
def enoughY (L : List Ly) (out : Int) : Nat → Nat → Int × Bool
  | 0, _ => (0, false)
  | d + 1, n => if out ≤ yl L n then ((n : Int), true) else enoughY L out d (n + 1)
theorem C_times_one (f : C → C) (n : Nat) : ∀ (c : C), C.times f 1 (C.times f n c) = C.times f (n + 1) c := by
  induction n with
  | zero => intro c; rfl
  | succ n ih =>
    intro c
    by_cases h : c.top = c.n
    · have e1 : ∀ k, C.times f (k + 1) c = c := fun k => by simp only [C.times, if_pos h]
      rw [e1 n, e1 0, e1 (n + 1)]
    · have e1 : ∀ k, C.times f (k + 1) c = C.times f k (f c) := fun k => by simp only [C.times, if_neg h]
      rw [e1 n, e1 (n + 1), ih]
theorem enough_at {L : List Ly} (hv : Valid L) (out : Int) : ∀ (d n : Nat), n + d = 65537 → enoughAt out d n (C.times C.melt n (C.of L)) = enoughY L out d n := by
  intro d
  induction d with
  | zero => intro n _; rfl
  | succ d ih =>
    intro n hn
    obtain ⟨t, hs⟩ := melts_st hv n (by omega)
    simp only [enoughAt, enoughY, hs.2.1]
    split
    · rfl
    · rw [C_times_one]
      exact ih (n + 1) (by omega)
def enoughP (L : List Ly) (out : Int) : Int × Bool × Int := if Valid L then (if 0 ≤ out ∧ out ≤ 65536 then ((enoughY L out 65537 0).1, (enoughY L out 65537 0).2, 0) else (0, false, 1)) else (0, false, 20)
theorem enough_eq (L : List Ly) (out : Int) : pack_Enough.f L out = some (enoughP L out) := by
  unfold pack_Enough.f enoughP
  rw [check_eq (by omega)]
  simp only [Option.bind_some]
  by_cases hv : Valid L
  · rw [checkE_pos hv, if_pos rfl, if_pos hv]
    by_cases hm : 0 ≤ out ∧ out ≤ 65536
    · have := enough_at hv out 65537 0 rfl
      rw [if_pos hm, if_pos hm, ← this]
      rfl
    · rw [if_neg hm, if_neg hm]
  · rw [checkE_neg hv, if_neg (by omega), if_neg hv]
theorem enough_none {L : List Ly} (out : Int) : ∀ (d n : Nat), (times melt1 n L).1 = [] → ¬ out ≤ yl L n → enoughY L out d n = (0, false) := by
  intro d
  induction d with
  | zero => intro n _ _; rfl
  | succ d ih =>
    intro n h1 h2
    simp only [enoughY, if_neg h2]
    have e : times melt1 (n + 1) L = ([], (times melt1 n L).2.1 + 0, (times melt1 n L).2.2 + 0) := by
      rw [times_add, h1, times_nil]
    refine ih (n + 1) (by rw [e]) ?_
    unfold yl at h2 ⊢
    rw [e]
    simpa using h2
theorem rdo_melt {L : List Ly} (hv : Valid L) : Ev (fun k => snowlineref02_Do.f k L 3 1 0) ((times melt1 1 L).1, (times melt1 1 L).2.1, 0) := by
  have := do_eq hv (show StepOk 3 1 0 from ⟨by omega, by omega, by omega⟩)
  exact this
theorem renough_loop {L : List Ly} (hv : Valid L) (out : Int) : ∀ (d n : Nat), n + d = 65537 →
    Ev (fun k => snowlineref02_Enough.l0 k out (times melt1 n L).1 (yl L n) (n : Int)) ((enoughY L out d n).1, (enoughY L out d n).2, 0) := by
  intro d
  induction d with
  | zero =>
    intro n hn
    refine Ev.from 1 (fun k hk => ?_)
    obtain ⟨k, rfl⟩ : ∃ j, k = j + 1 := ⟨k - 1, by omega⟩
    simp only [snowlineref02_Enough.l0]
    rw [if_neg (by omega)]
    rfl
  | succ d ih =>
    intro n hn
    have hi := ih (n + 1) (by omega)
    have hb := yl_bound hv n
    have hb2 := yl_bound hv (n + 1)
    obtain ⟨_, _, v1, _⟩ := id hv
    by_cases hge : out ≤ yl L n
    · refine Ev.from 1 (fun k hk => ?_)
      obtain ⟨k, rfl⟩ : ∃ j, k = j + 1 := ⟨k - 1, by omega⟩
      simp only [snowlineref02_Enough.l0, enoughY]
      rw [if_pos (by omega), if_pos (show yl L n ≥ out from hge), if_pos hge]
    · by_cases h0 : (times melt1 n L).1 = []
      · rw [enough_none out (d + 1) n h0 hge]
        refine Ev.from 1 (fun k hk => ?_)
        obtain ⟨k, rfl⟩ : ∃ j, k = j + 1 := ⟨k - 1, by omega⟩
        simp only [snowlineref02_Enough.l0]
        rw [if_pos (by omega), if_neg (show ¬ yl L n ≥ out from hge), if_pos (by rw [h0]; rfl)]
      · have hlen : ¬ (((times melt1 n L).1.length : Nat) : Int) = 0 := by
          intro h
          exact h0 (List.eq_nil_of_length_eq_zero (by omega))
        have e1 : (times melt1 (n + 1) L).1 = (times melt1 1 (times melt1 n L).1).1 := by rw [times_add]
        have e2 : yl L (n + 1) = yl L n + (times melt1 1 (times melt1 n L).1).2.1 := by unfold yl; rw [times_add]
        have e3 : enoughY L out (d + 1) n = enoughY L out d (n + 1) := by simp only [enoughY, if_neg hge]
        rw [e3]
        refine Ev.step (fun k => ?_) (Ev.bind (g := fun k bt => snowlineref02_Enough.l0 k out bt.1 (wrap64 (yl L n + bt.2.1)) (wrap64 ((n : Int) + 1))) (rdo_melt (melt_valid hv n)) ?_)
        · simp only [snowlineref02_Enough.l0]
          rw [if_pos (by omega), if_neg (show ¬ yl L n ≥ out from hge), if_neg hlen]
        · dsimp only
          rw [← e1, ← e2, wr (yl L (n + 1)) (by omega), wr ((n : Int) + 1) (by omega)]
          push_cast at hi
          exact hi
theorem renough_eq (L : List Ly) (out : Int) : Ev (fun k => snowlineref02_Enough.f k L out) (enoughP L out) := by
  unfold enoughP
  by_cases hv : Valid L
  · rw [if_pos hv]
    by_cases hm : 0 ≤ out ∧ out ≤ 65536
    · rw [if_pos hm]
      obtain ⟨k0, h0⟩ := renough_loop hv out 65537 0 rfl
      refine Ev.from (max k0 200) (fun k hk => ?_)
      unfold snowlineref02_Enough.f
      rw [rcheck_eq (by omega), within_eq, checkE_pos hv]
      simp only [Option.bind_some, if_true, decide_eq_true hm]
      exact h0 k (by omega)
    · rw [if_neg hm]
      refine Ev.from 200 (fun k hk => ?_)
      unfold snowlineref02_Enough.f
      rw [rcheck_eq (by omega), within_eq, checkE_pos hv]
      simp only [Option.bind_some, if_true, decide_eq_false hm]
      rfl
  · rw [if_neg hv]
    refine Ev.from 200 (fun k hk => ?_)
    unfold snowlineref02_Enough.f
    rw [rcheck_eq (by omega), checkE_neg hv]
    rfl
end Go.Proofs.YtpldcikmlpegpaaDoor.Plain
end
section
namespace Go.Proofs.YtpldcikmlpegpaaDoor.Plain
open Go.RowKit Go.Proofs.YtpldcikmlpegpaaDoor.PB Go.Proofs.YtpldcikmlpegpaaDoorW.PrintWords Go.Proofs.YtpldcikmlpegpaaDoorW.PrintMore
theorem rready_loop (ls : List Ly) (hr : Rights ls) (hl : ls.length ≤ 64) : ∀ (d k i : Nat) (s : Int), i + d = ls.length → d < k → 0 ≤ s → s ≤ 262144 * (i : Int) →
    snowlineref02_Ready.l0 k s (i : Int) ls = some (s + ready (ls.drop i), 0) := by
  intro d
  induction d with
  | zero =>
    intro k i s hi hk _ _
    obtain ⟨k, rfl⟩ : ∃ j, k = j + 1 := ⟨k - 1, by omega⟩
    simp only [snowlineref02_Ready.l0]
    rw [if_neg (by omega), List.drop_eq_nil_of_le (by omega)]
    simp [ready]
  | succ d ih =>
    intro k i s hi hk h0 h1
    obtain ⟨k, rfl⟩ : ∃ j, k = j + 1 := ⟨k - 1, by omega⟩
    have hm : Right (rd_T48 ls (i : Int)) := hr _ (by
      have : rd_T48 ls (i : Int) ∈ ls.drop i := by rw [rd_drop (by omega)]; exact List.mem_cons_self
      exact List.mem_of_mem_drop this)
    have hrb := room_bound hm.live.1
    obtain ⟨a, b, cc, dd, e, f, g⟩ := hm
    simp only [snowlineref02_Ready.l0]
    rw [if_pos (by omega), if_pos (by omega)]
    rw [rd_drop (show i < ls.length by omega)]
    simp only [ready]
    have h9 : 0 ≤ (rd_T48 ls (i : Int)).f0 + (rd_T48 ls (i : Int)).f2 := by omega
    rw [wr ((rd_T48 ls (i : Int)).f0 + _) (by omega), Int.tdiv_eq_ediv_of_nonneg h9, wr (((rd_T48 ls (i : Int)).f0 + _) / 20) (by omega), wr (s + _) (by omega), wr (s + _ + _) (by omega), wr (s + _ + _ - _) (by omega), wr ((i : Int) + 1) (by omega)]
    have := ih k (i + 1) (s + (rd_T48 ls (i : Int)).f2 + ((rd_T48 ls (i : Int)).f0 + (rd_T48 ls (i : Int)).f2) / 20 - (rd_T48 ls (i : Int)).f1) (by omega) (by omega) (by unfold room at hrb; omega) (by unfold room at hrb; push_cast; omega)
    push_cast at this
    rw [this]
    unfold room
    congr 2
    omega
theorem rready_eq {k : Nat} (hk : 130 ≤ k) (L : List Ly) : snowlineref02_Ready.f k L = some (if Valid L then (ready L, 0) else (0, 20)) := by
  unfold snowlineref02_Ready.f
  rw [rcheck_eq hk]
  simp only [Option.bind_some]
  by_cases hv : Valid L
  · rw [checkE_pos hv, if_pos rfl, if_pos hv]
    have := rready_loop L hv.2.1 hv.1 L.length k 0 0 (by omega) (by have := hv.1; omega) (by omega) (by omega)
    simpa using this
  · rw [checkE_neg hv, if_neg (by omega), if_neg hv]
theorem rWater_eq {k : Nat} (hk : 130 ≤ k) (L : List Ly) : snowlineref02_Water.f k L = some (if Valid L then (water L, 0) else (0, 20)) := by
  unfold snowlineref02_Water.f
  rw [rcheck_eq hk]
  simp only [Option.bind_some]
  by_cases hv : Valid L
  · rw [checkE_pos hv, if_pos rfl, if_pos hv, rwater_eq hv.2.1 (by have := hv.1; omega) (by have := hv.1; omega)]
    rfl
  · rw [checkE_neg hv, if_neg (by omega), if_neg hv]
theorem rCold_eq {k : Nat} (hk : 130 ≤ k) (L : List Ly) : snowlineref02_Cold.f k L = some (if Valid L then (cold L, 0) else (0, 20)) := by
  unfold snowlineref02_Cold.f
  rw [rcheck_eq hk]
  simp only [Option.bind_some]
  by_cases hv : Valid L
  · rw [checkE_pos hv, if_pos rfl, if_pos hv, rcold_eq hv.2.1 (by have := hv.1; omega) (by have := hv.1; omega)]
    rfl
  · rw [checkE_neg hv, if_neg (by omega), if_neg hv]
theorem big_ev (L : List Ly) : ∃ b, ∀ k, 130 ≤ k → snowlinelaw02_big.f k L = some b := by
  by_cases hv : Valid L
  · by_cases hw : water L > 3000
    · exact ⟨true, fun k hk => by
        unfold snowlinelaw02_big.f
        rw [rcheck_eq hk, rWater_eq hk, rCold_eq hk, checkE_pos hv]
        simp only [Option.bind_some, if_pos hv, if_true]
        rw [if_pos hw]⟩
    · exact ⟨decide (cold L > 3000), fun k hk => by
        unfold snowlinelaw02_big.f
        rw [rcheck_eq hk, rWater_eq hk, rCold_eq hk, checkE_pos hv]
        simp only [Option.bind_some, if_pos hv, if_true]
        rw [if_neg hw]⟩
  · exact ⟨false, fun k hk => by
      unfold snowlinelaw02_big.f
      rw [rcheck_eq hk, checkE_neg hv]
      rfl⟩
end Go.Proofs.YtpldcikmlpegpaaDoor.Plain
end
section
namespace Go.Proofs.YtpldcikmlpegpaaDoor.PurePackReadies
open Go.RowKit Go.Proofs.YtpldcikmlpegpaaDoor.PB Go.Proofs.YtpldcikmlpegpaaDoor.Open Go.Proofs.YtpldcikmlpegpaaDoor.Plain
theorem pure (l : List Ly) (a b : Int) (_ : ∀ x ∈ l, LyI x) (_ : i64 a) (_ : i64 b) : ∃ n, snowlinelaw02_PackReadies.f n l a b = some true := by
  obtain ⟨k1, h1⟩ := few_one l
  obtain ⟨k2, h2⟩ := ryield_eq l a
  obtain ⟨k3, h3⟩ := renough_eq l b
  obtain ⟨g, hg⟩ := big_ev l
  have hj : ∀ (x : Bool) (k : Nat), 200 ≤ k → k2 ≤ k → k3 ≤ k → snowlinelaw02_PackReadies.j0 (k + 1) a b x l = some true := by
    intro x k h4 h5 h6
    simp only [snowlinelaw02_PackReadies.j0]
    cases x
    · rw [if_neg (by simp), ready_eq (by omega), rready_eq (by omega), yield_eq, show snowlineref02_Yield.f k l a = _ from h2 k h5, enough_eq, show snowlineref02_Enough.f k l b = _ from h3 k h6]
      simp
    · rfl
  refine ⟨max 200 (max k1 (max k2 k3)) + 1, ?_⟩
  generalize hk : max 200 (max k1 (max k2 k3)) = k
  have hf : snowlinelaw02_few.f (k + 1) [(⟨l⟩ : S24)] = some (decide (l.length ≤ 70)) := h1 (k + 1) (by omega)
  have hjx := fun x => hj x k (by omega) (by omega) (by omega)
  unfold snowlinelaw02_PackReadies.f
  rw [sane_eq (k + 1) (by omega), hf, hg (k + 1) (by omega)]
  simp only [Option.bind_some, if_true, hjx]
  split
  · split
    · split <;> rfl
    · rfl
  · rfl
end Go.Proofs.YtpldcikmlpegpaaDoor.PurePackReadies
end
section
namespace Go.Proofs.YtpldcikmlpegpaaDoor.packReadies
open Go.ChangeShapes Go.WideShapes Go.ChangeAt Go.RowKit Go.Proofs.YtpldcikmlpegpaaDoor.Open Go.Proofs.YtpldcikmlpegpaaDoor.PB
set_option linter.unusedVariables false
set_option maxRecDepth 100000 in
theorem lifted (os : Os) (started : os.Started) (H : Type) (enc : TypeId × Value → H) :
    ReturnsInHanded {} Tryd.checked os 15 .any (fun w args => (Rows.packReadiesSpec.pre enc Tryd.prog Tryd.f15 [] false w args ∧ laidMetH Tryd.prog laid3 w) ∧ sizedMet enc Tryd.prog Tryd.f15 (OpenSpec.ofChange Rows.packReadiesSpec) false w args)
      (Rows.packReadiesSpec.post enc Tryd.prog Tryd.f15 false true false false) := by
  refine returnsInHanded_of_change_and (C := Tryd.checked) (X := fun w _ => laidMetH Tryd.prog laid3 w) (fun _ _ _ hh h => h.of_heap hh) own started (by kernel_rfl) Tryd.func15
    (ChangeSpec.witness_shaped (enc := enc) (C := Tryd.checked) (os := os) (X := fun w _ => laidMetH Tryd.prog laid3 w) false (World.doorLaid Tryd.prog 400 os) #[.agg #[.slice none 0 0], .int .i64 0, .int .i64 0] 8 rfl (World.shaped_of_RefB (by kernel_rfl) (by kernel_rfl)) (by kernel_rfl) (by kernel_rfl) (by kernel_rfl) (door_met os _)) ?_
  intro W base args ds gs before hval0 hW _ _ hL _
  have hval : ∀ (j : Nat) t v, Tryd.f15.params[j]? = some t → args[j]? = some v → Value.okWide Tryd.prog W .any base t v := hval0
  have hW' := hW
  obtain ⟨p, q, hA0, hV, rfl, hfz, hnd⟩ := hW
  have hA : DataW.TrodAll enc Tryd.prog W 0 (fun _ => true) true Tryd.f15.params.toList args.toList ds p := hA0
  rw [Tryd.params15] at hA hval
  obtain ⟨v0, vs0, d0, ds0, p0, q0, hargs, rfl, rfl, h0, r0⟩ := trodAll_cons hA
  obtain ⟨v1, vs1, d1, ds1, p1, q1, rfl, rfl, rfl, h1, r1⟩ := trodAll_cons r0
  obtain ⟨v2, vs2, d2, ds2, p2, q2, rfl, rfl, rfl, h2, r2⟩ := trodAll_cons r1
  obtain ⟨rfl, rfl, rfl⟩ := trodAll_nil r2
  obtain rfl : args = #[v0, v1, v2] := by cases args; simp_all
  obtain ⟨rfl, rfl⟩ := trodVars_none hV
  have k0 := h0
  have lt0 : ∀ x ∈ p0, x.block < W.heap.size := by obtain ⟨m, hm⟩ := k0; exact DataW.trod_lt m _ _ _ hm
  obtain ⟨A0, c0, l0, rfl, hl0, hC0, hi0⟩ := open_pack (hval 0 24 v0 rfl rfl) h0
  have k1 := h1
  have lt1 : ∀ x ∈ p1, x.block < W.heap.size := by obtain ⟨m, hm⟩ := k1; exact DataW.trod_lt m _ _ _ hm
  obtain ⟨a1, rfl, _, _, w1⟩ := open_int Tryd.underlying3 (hval 1 3 v1 rfl rfl) h1
  have k2 := h2
  have lt2 : ∀ x ∈ p2, x.block < W.heap.size := by obtain ⟨m, hm⟩ := k2; exact DataW.trod_lt m _ _ _ hm
  obtain ⟨a2, rfl, _, _, w2⟩ := open_int Tryd.underlying3 (hval 2 3 v2 rfl rfl) h2
  clear hA0 hval0
  obtain ⟨k, h⟩ := PurePackReadies.pure l0 a1 a2 hi0 w1 w2
  refine (snowlinelaw02_PackReadies.calls k (fun k => k < W.heap.size) A0 c0 l0 a1 a2 true W (share_of hC0 hl0) (glob_of hL) h).mono ?_
  rintro e W' ⟨rfl, bel⟩
  exact ⟨_, rfl, _, _, _, [], _, [], hW', trodAll_mk1 (shut_bool Tryd.underlying4 _), (trodAll_cons_mk (Below.trod laidOut (by kernel_rfl) (of_decide_eq_true (by kernel_rfl)) k0 bel lt0) (trodAll_cons_mk (Below.trod laidOut (by kernel_rfl) (of_decide_eq_true (by kernel_rfl)) k1 bel lt1) (trodAll_cons_mk (Below.trod laidOut (by kernel_rfl) (of_decide_eq_true (by kernel_rfl)) k2 bel lt2) trodAll_mk0))), rfl, bel.frame _, fun h => by cases h⟩
theorem over : Rows.PackReadiesSaid :=
  OpenClaim.holds_of_wide 15 Tryd.f15 rfl rfl rfl rfl rfl rfl rfl ⟨rfl, rfl, rfl, rfl, rfl⟩ rfl rfl rfl rfl rfl (by kernel_rfl) Tryd.func15 (by kernel_rfl)
    (of_decide_eq_true (by kernel_rfl)) (by unfold Func.isWrapper; first | (rw [if_pos (by decide +kernel)]; kernel_rfl) | (rw [if_neg (by decide +kernel)]; exact ⟨rfl, rfl⟩))
    (fun os started H enc _ => lifted os started H enc)
theorem card_holds : Rows.PackReadiesCardSaid :=
  Claim7.holds_tied_plain_at .later [] [.data, .data, .data] true (true, "e4590a7662fcc404b2e76501190c3f3756a1f45f85c3a8ba53dbb8ae7a261990") false
    over (fun _ h => by cases h) (by kernel_rfl) (fun _ h => by cases h) packReadies_row_tie rfl ⟨rfl, rfl⟩ (by kernel_rfl) rfl
    (fun f fn hf hfn => by
      obtain rfl : f = 15 := Option.some.inj ((show Tryd.prog.funcNamed "snowline/snowlinelaw02.PackReadies" = some 15 by kernel_rfl).symm.trans hf) |>.symm
      obtain rfl : fn = Tryd.f15 := (Option.some.inj (Tryd.func15.symm.trans hfn)).symm
      exact ⟨by kernel_rfl, fun j t ht => by
        rw [Tryd.params15] at ht
        have hm : t ∈ [24, 3, 3] := by simpa using Array.mem_of_getElem? ht
        have hall : ([24, 3, 3].all fun u => !Tryd.prog.wantsStandIn u) = true := by kernel_rfl
        exact (show Tryd.prog.wantsStandIn t = false by simpa using List.all_eq_true.1 hall t hm)⟩)
    (by kernel_rfl)
end Go.Proofs.YtpldcikmlpegpaaDoor.packReadies
end
