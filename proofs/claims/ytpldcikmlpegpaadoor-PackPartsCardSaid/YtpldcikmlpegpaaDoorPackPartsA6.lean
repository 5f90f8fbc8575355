/-
The tied card of the law PackParts of snowlinelaw02 holds: it answers true for every pack, every kind and all two amounts, and changes nothing.
-/
import Derived.KernelRfl
import Derived.Test.YtpldcikmlpegpaaDoorTie
import Derived.Test.YtpldcikmlpegpaaDoorCards
import Derived.SevenTiedAt
import Derived.Test.YtpldcikmlpegpaaDoorPackPartsA1
import Derived.Test.YtpldcikmlpegpaaDoorPackPartsA2
import Derived.Test.YtpldcikmlpegpaaDoorPackPartsA3
import Derived.Test.YtpldcikmlpegpaaDoorPackPartsA4
import Derived.Test.YtpldcikmlpegpaaDoorPackPartsA5
section
namespace Go.Proofs.YtpldcikmlpegpaaDoor.PB
open Go.RowKit Go.Proofs.YtpldcikmlpegpaaDoorW.PrintWords Go.Proofs.YtpldcikmlpegpaaDoorW.PrintLast Go.Proofs.YtpldcikmlpegpaaDoorW.PrintMore
attribute [local go_sem] max2_int min2_int max_two min_two max_three min_three max_four min_four   -- for this text's walks alone
set_option linter.unusedVariables false
set_option linter.unusedSimpArgs false
def snowlinelaw02_PackParts.j0 : Nat → Int → Int → Int → Bool → List (S48) → Option (Bool)
  | 0, _, _, _, _, _ => none
  | k + 1, x1, x2, x3, x41, x364000 => if x41 = true then (some true) else ((pack_Apply.f x364000 x1 x2 0).bind fun bt365 => (if bt365.2.2 = 0 then ((pack_Apply.f bt365.1 x1 x3 0).bind fun bt371 => ((pack_Apply.f x364000 x1 (wrap64 (x2 + x3)) 0).bind fun bt377 => (if bt371.2.2 = 0 then (if bt377.2.2 = 0 then ((snowlineref02_Same.f k bt371.1 bt377.1).bind fun t383 => (if t383 = true then (some ((wrap64 (bt365.2.1 + bt371.2.1)) == bt377.2.1)) else (some false))) else (some true)) else (some true)))) else (some true)))
def snowlinelaw02_PackParts.f (k : Nat) (l0_0 : List (S48)) (a1 : Int) (a2 : Int) (a3 : Int) : Option (Bool) := (snowlinelaw02_sane.f k).bind fun t364 => (if t364 = true then (if a1 < 2 then (snowlinelaw02_PackParts.j0 k a1 a2 a3 true l0_0) else (if a1 > 6 then (snowlinelaw02_PackParts.j0 k a1 a2 a3 true l0_0) else (if a2 < 0 then (snowlinelaw02_PackParts.j0 k a1 a2 a3 true l0_0) else (if a2 > 65536 then (snowlinelaw02_PackParts.j0 k a1 a2 a3 true l0_0) else (if a3 < 0 then (snowlinelaw02_PackParts.j0 k a1 a2 a3 true l0_0) else (snowlinelaw02_PackParts.j0 k a1 a2 a3 (decide (a3 > 65536)) l0_0)))))) else (some false))
set_option maxHeartbeats 8000000 in
set_option maxRecDepth 100000 in
theorem snowlinelaw02_PackParts.calls (k : Nat) (A0_0 : Option Addr) (c0_0 : Nat) (l0_0 : List (S48)) (a1 : Int) (a2 : Int) (a3 : Int) (r : Bool) (w : World) (hr0_0 : Kd.C k48 w A0_0 l0_0.length l0_0) (hc0_0 : l0_0.length ≤ c0_0) (hG : Glob w) (h : snowlinelaw02_PackParts.f k l0_0 a1 a2 a3 = some r) :
    Calls Tryd.prog 5 #[.agg #[.slice A0_0 l0_0.length c0_0], .int .i64 a1, .int .i64 a2, .int .i64 a3] w fun e w' => e = .returned (.bool r) ∧ Below w.heap.size w w' := by
  have hu24 := Tryd.underlying24
  have hu26 := Tryd.underlying26
  have HR0_0 := Aside0.mk hr0_0
  have HC0_0 := Aside0.mk hc0_0
  clear hr0_0 hc0_0
  have HB := Aside0.mk (Below.refl w.heap.size w)
  have HGl := Aside0.mk hG
  clear hG
  have H : ((snowlinelaw02_sane.f k).bind fun t364 => (if t364 = true then (if a1 < 2 then (snowlinelaw02_PackParts.j0 k a1 a2 a3 true l0_0) else (if a1 > 6 then (snowlinelaw02_PackParts.j0 k a1 a2 a3 true l0_0) else (if a2 < 0 then (snowlinelaw02_PackParts.j0 k a1 a2 a3 true l0_0) else (if a2 > 65536 then (snowlinelaw02_PackParts.j0 k a1 a2 a3 true l0_0) else (if a3 < 0 then (snowlinelaw02_PackParts.j0 k a1 a2 a3 true l0_0) else (snowlinelaw02_PackParts.j0 k a1 a2 a3 (decide (a3 > 65536)) l0_0)))))) else (some false))) = some r := h
  clear h
  replace H := Option.bind_eq_some_iff.mp H
  obtain ⟨t364, A50, H⟩ := H
  replace H : (if t364 = true then (if a1 < 2 then (snowlinelaw02_PackParts.j0 k a1 a2 a3 true l0_0) else (if a1 > 6 then (snowlinelaw02_PackParts.j0 k a1 a2 a3 true l0_0) else (if a2 < 0 then (snowlinelaw02_PackParts.j0 k a1 a2 a3 true l0_0) else (if a2 > 65536 then (snowlinelaw02_PackParts.j0 k a1 a2 a3 true l0_0) else (if a3 < 0 then (snowlinelaw02_PackParts.j0 k a1 a2 a3 true l0_0) else (snowlinelaw02_PackParts.j0 k a1 a2 a3 (decide (a3 > 65536)) l0_0)))))) else (some false)) = some r := H
  have A5 := Aside0.mk A50
  clear A50
  by_cases c6 : t364 = true
  · subst c6
    have H1 : (if a1 < 2 then (snowlinelaw02_PackParts.j0 k a1 a2 a3 true l0_0) else (if a1 > 6 then (snowlinelaw02_PackParts.j0 k a1 a2 a3 true l0_0) else (if a2 < 0 then (snowlinelaw02_PackParts.j0 k a1 a2 a3 true l0_0) else (if a2 > 65536 then (snowlinelaw02_PackParts.j0 k a1 a2 a3 true l0_0) else (if a3 < 0 then (snowlinelaw02_PackParts.j0 k a1 a2 a3 true l0_0) else (snowlinelaw02_PackParts.j0 k a1 a2 a3 (decide (a3 > 65536)) l0_0)))))) = some r := by rw [if_pos rfl] at H; exact H
    clear H
    have H := H1
    clear H1
    have HC7 := Aside0.mk H
    clear H
    go_enter Tryd.func5, Tryd.ntmps5
    go_upto_region 3 with (first | ((with_reducible refine gate_dst (N := 4) rfl ?_); refine box_event ?hg (N := 4) ?hd (cs := #[.slice A0_0 l0_0.length c0_0]) (t := 24) ?hr ?_; (case hd => rfl); (case hg => rfl); (case hr => first | (go_simp; done) | (go_simp; rfl)); intro gb363 hg w8 hbox hb; have n0_ := Aside0.mk (below_step (by repeat (first | (with_reducible first | exact HB.out | apply below_alloc | apply pw_below_drewN | apply below_drew1) | exact HB.out)) hb); have n1_ := Aside0.mk (hbox); have n2_ := Aside0.mk ((by rw [hg]; exact (below_size (by repeat (first | (with_reducible first | exact HB.out | apply below_alloc | apply pw_below_drewN | apply below_drew1) | exact HB.out))) : w.heap.size ≤ gb363)); have n3_ := Aside0.mk ((by rw [hg]; exact (below_size (by repeat (first | (with_reducible first | exact HB.out | apply below_alloc | apply pw_below_drewN | apply below_drew1) | exact HB.out))) : w.heap.size ≤ gb363)); clear HB; have HB := n0_; have BK363 := n1_; have GW363 := n2_; have GE363 := n3_; clear n0_ n1_ n2_ n3_; clear hb hbox hg) | ((with_reducible refine gate_callee (f := 18) rfl ?_); refine goesL_ (some 18) rfl rfl Tryd.func18 (by kernel_rfl) rfl #[] rfl (by (try simp only [List.map_toArray, List.map_cons, List.map_nil]); first | done | rfl | (simp only [List.length_drop, List.length_take]; rfl)) ?_; (with_reducible refine (snowlinelaw02_sane.calls k  true _ ?hgl_ A5.out).mono ?_); (case hgl_ => exact HGl.out.below (by repeat (first | (with_reducible first | exact HB.out | apply below_alloc | apply pw_below_drewN | apply below_drew1 | refine below_set ?_ GE363.out) | exact HB.out)) (Nat.le_refl _)); rintro e w9 ⟨rfl, hb⟩; refine ⟨_, rfl, ?_⟩; have n0_ := Aside0.mk (blk_below (g := gb363) (o := .cells #[.slice A0_0 l0_0.length c0_0] 24 (0, 0)) (by (with_reducible repeat (first | refine blk_drewN ?_ _ | refine blk_drew ?_ | refine blk_alloc ?_ _)); exact BK363.out) hb); have n1_ := Aside0.mk (below_step (by repeat (first | (with_reducible first | exact HB.out | apply below_alloc | apply pw_below_drewN | apply below_drew1 | refine below_set ?_ GE363.out) | exact HB.out)) hb); clear BK363; clear HB; have BK363 := n0_; have HB := n1_; clear n0_ n1_; (try clear hb); (try clear hb2); (try clear hk); (try clear hi)))
    (try simp only [Act.put, List.setIfInBounds_toArray, List.set_cons_zero, List.set_cons_succ])
    go_cut [41] (fun v41 wc => ∃ (kq : Nat) (x41_6 : Bool), v41 = .bool x41_6 ∧ Aside0 (snowlinelaw02_PackParts.j0 kq a1 a2 a3 x41_6 l0_0 = some r) ∧ Aside0 (kq ≤ k) ∧ Aside0 (wc.heap[gb363]? = some (.cells #[(.slice A0_0 l0_0.length c0_0)] 24 (0, 0))) ∧ Aside0 (Below w.heap.size w wc))
    case first =>
      have H := HC7.out
      clear HC7
      by_cases c10 : a1 < 2
      · rw [if_pos c10] at H
        have c10b0 : decide (a1 < 2) = true := decide_eq_true c10
        clear c10
        (first | rw [c10b0] | (simp only [i64_w, i32_w]; rw [c10b0]) | skip)
        have H' := Aside0.mk H
        clear H
        go_wp2
        go_meet
        case rel => exact ⟨_, (true), (by first | rfl | (simp; done) | (simp [*]; done)), H', ⟨by first | omega | exact Nat.le_refl _⟩, ⟨by (with_reducible repeat (first | refine blk_drewN ?_ _ | refine blk_drew ?_ | refine blk_alloc ?_ _)); exact BK363.out⟩, ⟨by repeat (first | (with_reducible first | exact HB.out | apply below_alloc | apply pw_below_drewN | apply below_drew1 | refine below_set ?_ GE363.out) | exact HB.out)⟩⟩
      · rw [if_neg c10] at H
        have c10b0 : decide (a1 < 2) = false := decide_eq_false c10
        clear c10
        (first | rw [c10b0] | (simp only [i64_w, i32_w]; rw [c10b0]) | skip)
        by_cases c11 : a1 > 6
        · rw [if_pos c11] at H
          have c11b0 : decide (6 < a1) = true := decide_eq_true c11
          clear c11
          have H' := Aside0.mk H
          clear H
          go_wp2
          go_meet
          case rel => exact ⟨_, (true), (by first | rfl | (simp; done) | (simp [*]; done)), H', ⟨by first | omega | exact Nat.le_refl _⟩, ⟨by (with_reducible repeat (first | refine blk_drewN ?_ _ | refine blk_drew ?_ | refine blk_alloc ?_ _)); exact BK363.out⟩, ⟨by repeat (first | (with_reducible first | exact HB.out | apply below_alloc | apply pw_below_drewN | apply below_drew1 | refine below_set ?_ GE363.out) | exact HB.out)⟩⟩
        · rw [if_neg c11] at H
          have c11b0 : decide (6 < a1) = false := decide_eq_false c11
          clear c11
          by_cases c12 : a2 < 0
          · rw [if_pos c12] at H
            have c12b0 : decide (a2 < 0) = true := decide_eq_true c12
            clear c12
            have H' := Aside0.mk H
            clear H
            go_wp2
            go_meet
            case rel => exact ⟨_, (true), (by first | rfl | (simp; done) | (simp [*]; done)), H', ⟨by first | omega | exact Nat.le_refl _⟩, ⟨by (with_reducible repeat (first | refine blk_drewN ?_ _ | refine blk_drew ?_ | refine blk_alloc ?_ _)); exact BK363.out⟩, ⟨by repeat (first | (with_reducible first | exact HB.out | apply below_alloc | apply pw_below_drewN | apply below_drew1 | refine below_set ?_ GE363.out) | exact HB.out)⟩⟩
          · rw [if_neg c12] at H
            have c12b0 : decide (a2 < 0) = false := decide_eq_false c12
            clear c12
            by_cases c13 : a2 > 65536
            · rw [if_pos c13] at H
              have c13b0 : decide (65536 < a2) = true := decide_eq_true c13
              clear c13
              have H' := Aside0.mk H
              clear H
              go_wp2
              go_meet
              case rel => exact ⟨_, (true), (by first | rfl | (simp; done) | (simp [*]; done)), H', ⟨by first | omega | exact Nat.le_refl _⟩, ⟨by (with_reducible repeat (first | refine blk_drewN ?_ _ | refine blk_drew ?_ | refine blk_alloc ?_ _)); exact BK363.out⟩, ⟨by repeat (first | (with_reducible first | exact HB.out | apply below_alloc | apply pw_below_drewN | apply below_drew1 | refine below_set ?_ GE363.out) | exact HB.out)⟩⟩
            · rw [if_neg c13] at H
              have c13b0 : decide (65536 < a2) = false := decide_eq_false c13
              clear c13
              by_cases c14 : a3 < 0
              · rw [if_pos c14] at H
                have c14b0 : decide (a3 < 0) = true := decide_eq_true c14
                clear c14
                have H' := Aside0.mk H
                clear H
                go_wp2
                go_meet
                case rel => exact ⟨_, (true), (by first | rfl | (simp; done) | (simp [*]; done)), H', ⟨by first | omega | exact Nat.le_refl _⟩, ⟨by (with_reducible repeat (first | refine blk_drewN ?_ _ | refine blk_drew ?_ | refine blk_alloc ?_ _)); exact BK363.out⟩, ⟨by repeat (first | (with_reducible first | exact HB.out | apply below_alloc | apply pw_below_drewN | apply below_drew1 | refine below_set ?_ GE363.out) | exact HB.out)⟩⟩
              · rw [if_neg c14] at H
                have c14b0 : decide (a3 < 0) = false := decide_eq_false c14
                clear c14
                have H' := Aside0.mk H
                clear H
                go_wp2
                go_meet
                case rel => exact ⟨_, (decide (a3 > 65536)), (by first | rfl | (simp; done) | (simp [*]; done)), H', ⟨by first | omega | exact Nat.le_refl _⟩, ⟨by (with_reducible repeat (first | refine blk_drewN ?_ _ | refine blk_drew ?_ | refine blk_alloc ?_ _)); exact BK363.out⟩, ⟨by repeat (first | (with_reducible first | exact HB.out | apply below_alloc | apply pw_below_drewN | apply below_drew1 | refine below_set ?_ GE363.out) | exact HB.out)⟩⟩
    case rest =>
      clear HC7
      try clear c1
      try clear p2
      try clear c5
      try clear c6
      try clear c10
      try clear c10b0
      try clear c11
      try clear c11b0
      try clear c12
      try clear c12b0
      try clear c13
      try clear c13b0
      try clear c14
      try clear c14b0
      obtain ⟨kq, x41_6, rfl, HA, HJ6, BK363, HB⟩ := hcut
      cases kq with
      | zero => exact absurd HA.out (by simp [snowlinelaw02_PackParts.j0])
      | succ kj6 =>
        have H := HA.out
        clear HA
        simp only [snowlinelaw02_PackParts.j0] at H
        by_cases c15 : x41_6 = true
        · subst c15
          have H1 : (some true) = some r := by rw [if_pos rfl] at H; exact H
          clear H
          have H := H1
          clear H1
          obtain rfl := Option.some.inj H
          go_wp2
          go_ret
          exact ⟨by first | rfl | (simp [errW_none, errW_some] <;> rfl) | (simp [*, errW_none, errW_some] <;> rfl), by repeat (first | (with_reducible first | exact HB.out | apply below_alloc | apply pw_below_drewN | apply below_drew1 | refine below_set ?_ GE363.out) | exact HB.out)⟩
        · replace c15 := Bool.eq_false_iff.mpr c15
          subst c15
          have H1 : ((pack_Apply.f l0_0 a1 a2 0).bind fun bt365 => (if bt365.2.2 = 0 then ((pack_Apply.f bt365.1 a1 a3 0).bind fun bt371 => ((pack_Apply.f l0_0 a1 (wrap64 (a2 + a3)) 0).bind fun bt377 => (if bt371.2.2 = 0 then (if bt377.2.2 = 0 then ((snowlineref02_Same.f kj6 bt371.1 bt377.1).bind fun t383 => (if t383 = true then (some ((wrap64 (bt365.2.1 + bt371.2.1)) == bt377.2.1)) else (some false))) else (some true)) else (some true)))) else (some true))) = some r := by rw [if_neg (show ¬ (false = true) by decide)] at H; exact H
          clear H
          have H := H1
          clear H1
          replace H := Option.bind_eq_some_iff.mp H
          obtain ⟨⟨t365, t368, t369⟩, A160, H⟩ := H
          replace H : (if t369 = 0 then ((pack_Apply.f t365 a1 a3 0).bind fun bt371 => ((pack_Apply.f l0_0 a1 (wrap64 (a2 + a3)) 0).bind fun bt377 => (if bt371.2.2 = 0 then (if bt377.2.2 = 0 then ((snowlineref02_Same.f kj6 bt371.1 bt377.1).bind fun t383 => (if t383 = true then (some ((wrap64 (t368 + bt371.2.1)) == bt377.2.1)) else (some false))) else (some true)) else (some true)))) else (some true)) = some r := H
          have A16 := Aside0.mk A160
          clear A160
          by_cases c17 : t369 = 0
          · rw [if_pos c17] at H
            have c17b0 : (t369 == 0) = true := beq_iff_eq.mpr c17
            have c17b1 : (t369 != 0) = false := bne_eq_false_iff_eq.mpr c17
            clear c17
            replace H := Option.bind_eq_some_iff.mp H
            obtain ⟨⟨t371, t374, t375⟩, A180, H⟩ := H
            replace H : ((pack_Apply.f l0_0 a1 (wrap64 (a2 + a3)) 0).bind fun bt377 => (if t375 = 0 then (if bt377.2.2 = 0 then ((snowlineref02_Same.f kj6 t371 bt377.1).bind fun t383 => (if t383 = true then (some ((wrap64 (t368 + t374)) == bt377.2.1)) else (some false))) else (some true)) else (some true))) = some r := H
            have A18 := Aside0.mk A180
            clear A180
            replace H := Option.bind_eq_some_iff.mp H
            obtain ⟨⟨t377, t380, t381⟩, A190, H⟩ := H
            replace H : (if t375 = 0 then (if t381 = 0 then ((snowlineref02_Same.f kj6 t371 t377).bind fun t383 => (if t383 = true then (some ((wrap64 (t368 + t374)) == t380)) else (some false))) else (some true)) else (some true)) = some r := H
            have A19 := Aside0.mk A190
            clear A190
            by_cases c20 : t375 = 0
            · rw [if_pos c20] at H
              have c20b0 : (t375 == 0) = true := beq_iff_eq.mpr c20
              have c20b1 : (t375 != 0) = false := bne_eq_false_iff_eq.mpr c20
              clear c20
              by_cases c21 : t381 = 0
              · rw [if_pos c21] at H
                have c21b0 : (t381 == 0) = true := beq_iff_eq.mpr c21
                have c21b1 : (t381 != 0) = false := bne_eq_false_iff_eq.mpr c21
                clear c21
                replace H := Option.bind_eq_some_iff.mp H
                obtain ⟨t383, A220, H⟩ := H
                replace H : (if t383 = true then (some ((wrap64 (t368 + t374)) == t380)) else (some false)) = some r := H
                have A22 := Aside0.mk A220
                clear A220
                by_cases c23 : t383 = true
                · subst c23
                  have H1 : (some ((wrap64 (t368 + t374)) == t380)) = some r := by rw [if_pos rfl] at H; exact H
                  clear H
                  have H := H1
                  clear H1
                  obtain rfl := Option.some.inj H
                  have hcz24_0 : wc.cell? ⟨gb363, 0, none⟩ = some (.slice A0_0 l0_0.length c0_0) := (blk_cell BK363.out 0).trans rfl
                  have hfz24_0 := blk_frozen BK363.out 0
                  go_wp2_with (first | ((with_reducible refine gate_callee (f := 21) rfl ?_); refine goesL_ (some 47) rfl rfl Tryd.func21 (by kernel_rfl) rfl #[.agg #[.slice A0_0 l0_0.length c0_0], .agg #[.int .i64 a1, .int .i64 a2, .int .i64 0]] rfl (by (try simp only [List.map_toArray, List.map_cons, List.map_nil]); first | done | rfl | (simp only [List.length_drop, List.length_take]; rfl)) ?_; (with_reducible refine (pack_Apply.calls _ _ l0_0 a1 a2 0 t365 t368 t369 _ ?side1 ?side2 A16.out).mono ?_); (case side1 => repeat (first | exact (Kd.C_below HR0_0.out HB.out) | (with_reducible refine Kd.C_alloc ?_ _) | (with_reducible refine Kd.C_drewN ?_ _) | (with_reducible refine Kd.C_drew ?_))); (case side2 => exact HC0_0.out); rintro e w25 ⟨v366, rfl, ho0, hb⟩; refine ⟨_, rfl, ?_⟩; have n0_ := Aside0.mk (Kd.R_lower ho0 (below_size (by repeat (first | (with_reducible first | exact HB.out | apply below_alloc | apply pw_below_drewN | apply below_drew1 | refine below_set ?_ GE363.out) | exact HB.out)))); have n1_ := Aside0.mk (blk_below (g := gb363) (o := .cells #[.slice A0_0 l0_0.length c0_0] 24 (0, 0)) (by (with_reducible repeat (first | refine blk_drewN ?_ _ | refine blk_drew ?_ | refine blk_alloc ?_ _)); exact BK363.out) hb); have n2_ := Aside0.mk (below_step (by repeat (first | (with_reducible first | exact HB.out | apply below_alloc | apply pw_below_drewN | apply below_drew1 | refine below_set ?_ GE363.out) | exact HB.out)) hb); clear BK363; clear HB; have HO367 := n0_; have BK363 := n1_; have HB := n2_; clear n0_ n1_ n2_; (try clear hb); (try clear hb2); (try clear hk); (try clear hi); (try clear ho0)) | ((with_reducible refine gate_dst (N := 9) rfl ?_); refine box_event ?hg (N := 9) ?hd (cs := #[.slice none 0 0]) (t := 24) ?hr ?_; (case hd => rfl); (case hg => rfl); (case hr => first | (go_simp; done) | (go_simp; rfl)); intro gb370 hg w26 hbox hb; have n0_ := Aside0.mk (Kd.R_below (by (with_reducible repeat (first | apply Kd.R_alloc | apply Kd.R_drewN | apply Kd.R_drew)); exact HO367.out) hb); have n1_ := Aside0.mk (blk_below (g := gb363) (o := .cells #[.slice A0_0 l0_0.length c0_0] 24 (0, 0)) (by (with_reducible repeat (first | refine blk_drewN ?_ _ | refine blk_drew ?_ | refine blk_alloc ?_ _)); exact BK363.out) hb); have n2_ := Aside0.mk (below_step (by repeat (first | (with_reducible first | exact HB.out | apply below_alloc | apply pw_below_drewN | apply below_drew1 | refine below_set ?_ GE363.out) | exact HB.out)) hb); have n3_ := Aside0.mk (hbox); have n4_ := Aside0.mk ((by rw [hg]; exact (below_size (by repeat (first | (with_reducible first | exact HB.out | apply below_alloc | apply pw_below_drewN | apply below_drew1 | refine below_set ?_ GE363.out) | exact HB.out))) : w.heap.size ≤ gb370)); have n5_ := Aside0.mk ((by rw [hg]; exact (below_size (by repeat (first | (with_reducible first | exact HB.out | apply below_alloc | apply pw_below_drewN | apply below_drew1 | refine below_set ?_ GE363.out) | exact HB.out))) : w.heap.size ≤ gb370)); have n6_ := Aside0.mk ((by rw [hg]; exact Nat.ne_of_lt (blk_lt (g := gb363) (o := .cells #[.slice A0_0 l0_0.length c0_0] 24 (0, 0)) (by (with_reducible repeat (first | refine blk_drewN ?_ _ | refine blk_drew ?_ | refine blk_alloc ?_ _)); exact BK363.out)) : gb363 ≠ gb370)); have n7_ := Aside0.mk ((by rw [hg]; exact Nat.ne_of_gt (blk_lt (g := gb363) (o := .cells #[.slice A0_0 l0_0.length c0_0] 24 (0, 0)) (by (with_reducible repeat (first | refine blk_drewN ?_ _ | refine blk_drew ?_ | refine blk_alloc ?_ _)); exact BK363.out)) : gb370 ≠ gb363)); clear HO367; clear BK363; clear HB; have HO367 := n0_; have BK363 := n1_; have HB := n2_; have BK370 := n3_; have GW370 := n4_; have GE370 := n5_; have NB363_370 := n6_; have NB370_363 := n7_; clear n0_ n1_ n2_ n3_ n4_ n5_ n6_ n7_; clear hb hbox hg; obtain ⟨Ao27, co27, eo27⟩ := Kd.R_slice HO367.out; subst eo27; have hnb28 := NB370_363.out; have hnc28 := NB363_370.out; have hcz29_0 : w26.cell? ⟨gb370, 0, none⟩ = some (.slice none 0 0) := (blk_cell BK370.out 0).trans rfl; have hfz29_0 := blk_frozen BK370.out 0) | ((with_reducible refine gate_callee (f := 21) rfl ?_); refine goesL_ (some 58) rfl rfl Tryd.func21 (by kernel_rfl) rfl #[.agg #[.slice Ao27 t365.length co27], .agg #[.int .i64 a1, .int .i64 a3, .int .i64 0]] rfl (by (try simp only [List.map_toArray, List.map_cons, List.map_nil]); first | done | rfl | (simp only [List.length_drop, List.length_take]; rfl)) ?_; (with_reducible refine (pack_Apply.calls _ _ t365 a1 a3 0 t371 t374 t375 _ ?side1 ?side2 A18.out).mono ?_); (case side1 => refine (Kd.R_reads' (e := 48) (base := w.heap.size) (ok := fun k_ => True) (n := t365.length) (c := co27) ?_).2.2; exact (by (with_reducible repeat (first | apply Kd.R_alloc | apply Kd.R_drewN | apply Kd.R_drew)); exact (Kd.R_mono (Kd.R_far (p := ⟨gb370, 0, none⟩) (Kd.R_types HO367.out BK370.out (by decide)) (fun _ hk => hk.2) (.slice Ao27 t365.length co27)) (fun _ h_ => h_.1)))); (case side2 => exact (Kd.R_reads' HO367.out).2.1); rintro e w30 ⟨v372, rfl, ho0, hb⟩; refine ⟨_, rfl, ?_⟩; have n0_ := Aside0.mk (Kd.R_elder' (by (with_reducible repeat (first | apply Kd.R_alloc | apply Kd.R_drewN | apply Kd.R_drew)); exact (Kd.R_mono (Kd.R_far (p := ⟨gb370, 0, none⟩) (Kd.R_types HO367.out BK370.out (by decide)) (fun _ hk => hk.2) (.slice Ao27 t365.length co27)) (fun _ h_ => h_.1))) (Kd.R_base ho0) hb); have n1_ := Aside0.mk (Kd.R_lower (Kd.R_new' ho0 (Kd.R_lt (by (with_reducible repeat (first | apply Kd.R_alloc | apply Kd.R_drewN | apply Kd.R_drew)); exact (Kd.R_mono (Kd.R_far (p := ⟨gb370, 0, none⟩) (Kd.R_types HO367.out BK370.out (by decide)) (fun _ hk => hk.2) (.slice Ao27 t365.length co27)) (fun _ h_ => h_.1))))) (below_size (by repeat (first | (with_reducible first | exact HB.out | apply below_alloc | apply pw_below_drewN | apply below_drew1 | refine below_set ?_ GE363.out | refine below_set ?_ GE370.out) | exact HB.out)))); have n2_ := Aside0.mk (blk_below (g := gb363) (o := .cells #[.slice A0_0 l0_0.length c0_0] 24 (0, 0)) (by (with_reducible repeat (first | refine blk_drewN ?_ _ | refine blk_drew ?_ | refine blk_alloc ?_ _)); refine blk_far ?_ NB363_370.out _; (with_reducible repeat (first | refine blk_drewN ?_ _ | refine blk_drew ?_ | refine blk_alloc ?_ _)); exact BK363.out) hb); have n3_ := Aside0.mk (blk_below (g := gb370) (o := .cells #[.slice Ao27 t365.length co27] 24 (0, 0)) (by (with_reducible repeat (first | refine blk_drewN ?_ _ | refine blk_drew ?_ | refine blk_alloc ?_ _)); refine blk_put (cs := #[.slice none 0 0]) ?_ 0 _ rfl; (with_reducible repeat (first | refine blk_drewN ?_ _ | refine blk_drew ?_ | refine blk_alloc ?_ _)); exact BK370.out) hb); have n4_ := Aside0.mk (below_step (by repeat (first | (with_reducible first | exact HB.out | apply below_alloc | apply pw_below_drewN | apply below_drew1 | refine below_set ?_ GE363.out | refine below_set ?_ GE370.out) | exact HB.out)) hb); clear HO367; clear BK363; clear BK370; clear HB; have HO367 := n0_; have HO373 := n1_; have BK363 := n2_; have BK370 := n3_; have HB := n4_; clear n0_ n1_ n2_ n3_ n4_; (try clear hb); (try clear hb2); (try clear hk); (try clear hi); (try clear ho0)) | ((with_reducible refine gate_dst (N := 12) rfl ?_); refine box_event ?hg (N := 12) ?hd (cs := #[.slice none 0 0]) (t := 24) ?hr ?_; (case hd => rfl); (case hg => rfl); (case hr => first | (go_simp; done) | (go_simp; rfl)); intro gb376 hg w31 hbox hb; have n0_ := Aside0.mk (Kd.R_below (by (with_reducible repeat (first | apply Kd.R_alloc | apply Kd.R_drewN | apply Kd.R_drew)); exact HO367.out) hb); have n1_ := Aside0.mk (Kd.R_below (by (with_reducible repeat (first | apply Kd.R_alloc | apply Kd.R_drewN | apply Kd.R_drew)); exact HO373.out) hb); have n2_ := Aside0.mk (blk_below (g := gb363) (o := .cells #[.slice A0_0 l0_0.length c0_0] 24 (0, 0)) (by (with_reducible repeat (first | refine blk_drewN ?_ _ | refine blk_drew ?_ | refine blk_alloc ?_ _)); exact BK363.out) hb); have n3_ := Aside0.mk (blk_below (g := gb370) (o := .cells #[.slice Ao27 t365.length co27] 24 (0, 0)) (by (with_reducible repeat (first | refine blk_drewN ?_ _ | refine blk_drew ?_ | refine blk_alloc ?_ _)); exact BK370.out) hb); have n4_ := Aside0.mk (below_step (by repeat (first | (with_reducible first | exact HB.out | apply below_alloc | apply pw_below_drewN | apply below_drew1 | refine below_set ?_ GE363.out | refine below_set ?_ GE370.out) | exact HB.out)) hb); have n5_ := Aside0.mk (hbox); have n6_ := Aside0.mk ((by rw [hg]; exact (below_size (by repeat (first | (with_reducible first | exact HB.out | apply below_alloc | apply pw_below_drewN | apply below_drew1 | refine below_set ?_ GE363.out | refine below_set ?_ GE370.out) | exact HB.out))) : w.heap.size ≤ gb376)); have n7_ := Aside0.mk ((by rw [hg]; exact (below_size (by repeat (first | (with_reducible first | exact HB.out | apply below_alloc | apply pw_below_drewN | apply below_drew1 | refine below_set ?_ GE363.out | refine below_set ?_ GE370.out) | exact HB.out))) : w.heap.size ≤ gb376)); have n8_ := Aside0.mk ((by rw [hg]; exact Nat.ne_of_lt (blk_lt (g := gb363) (o := .cells #[.slice A0_0 l0_0.length c0_0] 24 (0, 0)) (by (with_reducible repeat (first | refine blk_drewN ?_ _ | refine blk_drew ?_ | refine blk_alloc ?_ _)); exact BK363.out)) : gb363 ≠ gb376)); have n9_ := Aside0.mk ((by rw [hg]; exact Nat.ne_of_gt (blk_lt (g := gb363) (o := .cells #[.slice A0_0 l0_0.length c0_0] 24 (0, 0)) (by (with_reducible repeat (first | refine blk_drewN ?_ _ | refine blk_drew ?_ | refine blk_alloc ?_ _)); exact BK363.out)) : gb376 ≠ gb363)); have n10_ := Aside0.mk ((by rw [hg]; exact Nat.ne_of_lt (blk_lt (g := gb370) (o := .cells #[.slice Ao27 t365.length co27] 24 (0, 0)) (by (with_reducible repeat (first | refine blk_drewN ?_ _ | refine blk_drew ?_ | refine blk_alloc ?_ _)); exact BK370.out)) : gb370 ≠ gb376)); have n11_ := Aside0.mk ((by rw [hg]; exact Nat.ne_of_gt (blk_lt (g := gb370) (o := .cells #[.slice Ao27 t365.length co27] 24 (0, 0)) (by (with_reducible repeat (first | refine blk_drewN ?_ _ | refine blk_drew ?_ | refine blk_alloc ?_ _)); exact BK370.out)) : gb376 ≠ gb370)); clear HO367; clear HO373; clear BK363; clear BK370; clear HB; have HO367 := n0_; have HO373 := n1_; have BK363 := n2_; have BK370 := n3_; have HB := n4_; have BK376 := n5_; have GW376 := n6_; have GE376 := n7_; have NB363_376 := n8_; have NB376_363 := n9_; have NB370_376 := n10_; have NB376_370 := n11_; clear n0_ n1_ n2_ n3_ n4_ n5_ n6_ n7_ n8_ n9_ n10_ n11_; clear hb hbox hg; obtain ⟨Ao32, co32, eo32⟩ := Kd.R_slice HO373.out; subst eo32; have hnb33 := NB376_363.out; have hnc33 := NB363_376.out; have hnb34 := NB376_370.out; have hnc34 := NB370_376.out; have hcz35_0 : w31.cell? ⟨gb376, 0, none⟩ = some (.slice none 0 0) := (blk_cell BK376.out 0).trans rfl; have hfz35_0 := blk_frozen BK376.out 0; have hcz36_0 : w31.cell? ⟨gb363, 0, none⟩ = some (.slice A0_0 l0_0.length c0_0) := (blk_cell BK363.out 0).trans rfl; have hfz36_0 := blk_frozen BK363.out 0) | ((with_reducible refine gate_callee (f := 21) rfl ?_); refine goesL_ (some 69) rfl rfl Tryd.func21 (by kernel_rfl) rfl #[.agg #[.slice A0_0 l0_0.length c0_0], .agg #[.int .i64 a1, .int .i64 (wrap64 (a2 + a3)), .int .i64 0]] rfl (by (try simp only [List.map_toArray, List.map_cons, List.map_nil]); first | done | rfl | (simp only [List.length_drop, List.length_take]; rfl)) ?_; (with_reducible refine (pack_Apply.calls _ _ l0_0 a1 (wrap64 (a2 + a3)) 0 t377 t380 t381 _ ?side1 ?side2 A19.out).mono ?_); (case side1 => exact Kd.C_below HR0_0.out (by repeat (first | (with_reducible first | exact HB.out | apply below_alloc | apply pw_below_drewN | apply below_drew1 | refine below_set ?_ GE363.out | refine below_set ?_ GE370.out | refine below_set ?_ GE376.out) | exact HB.out))); (case side2 => exact HC0_0.out); rintro e w37 ⟨v378, rfl, ho0, hb⟩; refine ⟨_, rfl, ?_⟩; have n0_ := Aside0.mk (Kd.R_elder' (by (with_reducible repeat (first | apply Kd.R_alloc | apply Kd.R_drewN | apply Kd.R_drew)); exact (Kd.R_mono (Kd.R_far (p := ⟨gb376, 0, none⟩) (Kd.R_types HO367.out BK376.out (by decide)) (fun _ hk => hk.2) (.slice Ao32 t371.length co32)) (fun _ h_ => h_.1))) (Kd.R_base ho0) hb); have n1_ := Aside0.mk (Kd.R_elder' (by (with_reducible repeat (first | apply Kd.R_alloc | apply Kd.R_drewN | apply Kd.R_drew)); exact (Kd.R_mono (Kd.R_far (p := ⟨gb376, 0, none⟩) (Kd.R_types HO373.out BK376.out (by decide)) (fun _ hk => hk.2) (.slice Ao32 t371.length co32)) (fun _ h_ => h_.1))) (Kd.R_base ho0) hb); have n2_ := Aside0.mk (Kd.R_lower (Kd.R_new' (Kd.R_new' ho0 (Kd.R_lt (by (with_reducible repeat (first | apply Kd.R_alloc | apply Kd.R_drewN | apply Kd.R_drew)); exact (Kd.R_mono (Kd.R_far (p := ⟨gb376, 0, none⟩) (Kd.R_types HO367.out BK376.out (by decide)) (fun _ hk => hk.2) (.slice Ao32 t371.length co32)) (fun _ h_ => h_.1))))) (Kd.R_lt (by (with_reducible repeat (first | apply Kd.R_alloc | apply Kd.R_drewN | apply Kd.R_drew)); exact (Kd.R_mono (Kd.R_far (p := ⟨gb376, 0, none⟩) (Kd.R_types HO373.out BK376.out (by decide)) (fun _ hk => hk.2) (.slice Ao32 t371.length co32)) (fun _ h_ => h_.1))))) (below_size (by repeat (first | (with_reducible first | exact HB.out | apply below_alloc | apply pw_below_drewN | apply below_drew1 | refine below_set ?_ GE363.out | refine below_set ?_ GE370.out | refine below_set ?_ GE376.out) | exact HB.out)))); have n3_ := Aside0.mk (blk_below (g := gb363) (o := .cells #[.slice A0_0 l0_0.length c0_0] 24 (0, 0)) (by (with_reducible repeat (first | refine blk_drewN ?_ _ | refine blk_drew ?_ | refine blk_alloc ?_ _)); refine blk_far ?_ NB363_376.out _; (with_reducible repeat (first | refine blk_drewN ?_ _ | refine blk_drew ?_ | refine blk_alloc ?_ _)); exact BK363.out) hb); have n4_ := Aside0.mk (blk_below (g := gb370) (o := .cells #[.slice Ao27 t365.length co27] 24 (0, 0)) (by (with_reducible repeat (first | refine blk_drewN ?_ _ | refine blk_drew ?_ | refine blk_alloc ?_ _)); refine blk_far ?_ NB370_376.out _; (with_reducible repeat (first | refine blk_drewN ?_ _ | refine blk_drew ?_ | refine blk_alloc ?_ _)); exact BK370.out) hb); have n5_ := Aside0.mk (blk_below (g := gb376) (o := .cells #[.slice Ao32 t371.length co32] 24 (0, 0)) (by (with_reducible repeat (first | refine blk_drewN ?_ _ | refine blk_drew ?_ | refine blk_alloc ?_ _)); refine blk_put (cs := #[.slice none 0 0]) ?_ 0 _ rfl; (with_reducible repeat (first | refine blk_drewN ?_ _ | refine blk_drew ?_ | refine blk_alloc ?_ _)); exact BK376.out) hb); have n6_ := Aside0.mk (below_step (by repeat (first | (with_reducible first | exact HB.out | apply below_alloc | apply pw_below_drewN | apply below_drew1 | refine below_set ?_ GE363.out | refine below_set ?_ GE370.out | refine below_set ?_ GE376.out) | exact HB.out)) hb); clear HO367; clear HO373; clear BK363; clear BK370; clear BK376; clear HB; have HO367 := n0_; have HO373 := n1_; have HO379 := n2_; have BK363 := n3_; have BK370 := n4_; have BK376 := n5_; have HB := n6_; clear n0_ n1_ n2_ n3_ n4_ n5_ n6_; (try clear hb); (try clear hb2); (try clear hk); (try clear hi); (try clear ho0)) | ((with_reducible refine gate_dst (N := 15) rfl ?_); refine box_event ?hg (N := 15) ?hd (cs := #[.slice none 0 0]) (t := 24) ?hr ?_; (case hd => rfl); (case hg => rfl); (case hr => first | (go_simp; done) | (go_simp; rfl)); intro gb382 hg w38 hbox hb; have n0_ := Aside0.mk (Kd.R_below (by (with_reducible repeat (first | apply Kd.R_alloc | apply Kd.R_drewN | apply Kd.R_drew)); exact HO367.out) hb); have n1_ := Aside0.mk (Kd.R_below (by (with_reducible repeat (first | apply Kd.R_alloc | apply Kd.R_drewN | apply Kd.R_drew)); exact HO373.out) hb); have n2_ := Aside0.mk (Kd.R_below (by (with_reducible repeat (first | apply Kd.R_alloc | apply Kd.R_drewN | apply Kd.R_drew)); exact HO379.out) hb); have n3_ := Aside0.mk (blk_below (g := gb363) (o := .cells #[.slice A0_0 l0_0.length c0_0] 24 (0, 0)) (by (with_reducible repeat (first | refine blk_drewN ?_ _ | refine blk_drew ?_ | refine blk_alloc ?_ _)); exact BK363.out) hb); have n4_ := Aside0.mk (blk_below (g := gb370) (o := .cells #[.slice Ao27 t365.length co27] 24 (0, 0)) (by (with_reducible repeat (first | refine blk_drewN ?_ _ | refine blk_drew ?_ | refine blk_alloc ?_ _)); exact BK370.out) hb); have n5_ := Aside0.mk (blk_below (g := gb376) (o := .cells #[.slice Ao32 t371.length co32] 24 (0, 0)) (by (with_reducible repeat (first | refine blk_drewN ?_ _ | refine blk_drew ?_ | refine blk_alloc ?_ _)); exact BK376.out) hb); have n6_ := Aside0.mk (below_step (by repeat (first | (with_reducible first | exact HB.out | apply below_alloc | apply pw_below_drewN | apply below_drew1 | refine below_set ?_ GE363.out | refine below_set ?_ GE370.out | refine below_set ?_ GE376.out) | exact HB.out)) hb); have n7_ := Aside0.mk (hbox); have n8_ := Aside0.mk ((by rw [hg]; exact (below_size (by repeat (first | (with_reducible first | exact HB.out | apply below_alloc | apply pw_below_drewN | apply below_drew1 | refine below_set ?_ GE363.out | refine below_set ?_ GE370.out | refine below_set ?_ GE376.out) | exact HB.out))) : w.heap.size ≤ gb382)); have n9_ := Aside0.mk ((by rw [hg]; exact (below_size (by repeat (first | (with_reducible first | exact HB.out | apply below_alloc | apply pw_below_drewN | apply below_drew1 | refine below_set ?_ GE363.out | refine below_set ?_ GE370.out | refine below_set ?_ GE376.out) | exact HB.out))) : w.heap.size ≤ gb382)); have n10_ := Aside0.mk ((by rw [hg]; exact Nat.ne_of_lt (blk_lt (g := gb363) (o := .cells #[.slice A0_0 l0_0.length c0_0] 24 (0, 0)) (by (with_reducible repeat (first | refine blk_drewN ?_ _ | refine blk_drew ?_ | refine blk_alloc ?_ _)); exact BK363.out)) : gb363 ≠ gb382)); have n11_ := Aside0.mk ((by rw [hg]; exact Nat.ne_of_gt (blk_lt (g := gb363) (o := .cells #[.slice A0_0 l0_0.length c0_0] 24 (0, 0)) (by (with_reducible repeat (first | refine blk_drewN ?_ _ | refine blk_drew ?_ | refine blk_alloc ?_ _)); exact BK363.out)) : gb382 ≠ gb363)); have n12_ := Aside0.mk ((by rw [hg]; exact Nat.ne_of_lt (blk_lt (g := gb370) (o := .cells #[.slice Ao27 t365.length co27] 24 (0, 0)) (by (with_reducible repeat (first | refine blk_drewN ?_ _ | refine blk_drew ?_ | refine blk_alloc ?_ _)); exact BK370.out)) : gb370 ≠ gb382)); have n13_ := Aside0.mk ((by rw [hg]; exact Nat.ne_of_gt (blk_lt (g := gb370) (o := .cells #[.slice Ao27 t365.length co27] 24 (0, 0)) (by (with_reducible repeat (first | refine blk_drewN ?_ _ | refine blk_drew ?_ | refine blk_alloc ?_ _)); exact BK370.out)) : gb382 ≠ gb370)); have n14_ := Aside0.mk ((by rw [hg]; exact Nat.ne_of_lt (blk_lt (g := gb376) (o := .cells #[.slice Ao32 t371.length co32] 24 (0, 0)) (by (with_reducible repeat (first | refine blk_drewN ?_ _ | refine blk_drew ?_ | refine blk_alloc ?_ _)); exact BK376.out)) : gb376 ≠ gb382)); have n15_ := Aside0.mk ((by rw [hg]; exact Nat.ne_of_gt (blk_lt (g := gb376) (o := .cells #[.slice Ao32 t371.length co32] 24 (0, 0)) (by (with_reducible repeat (first | refine blk_drewN ?_ _ | refine blk_drew ?_ | refine blk_alloc ?_ _)); exact BK376.out)) : gb382 ≠ gb376)); clear HO367; clear HO373; clear HO379; clear BK363; clear BK370; clear BK376; clear HB; have HO367 := n0_; have HO373 := n1_; have HO379 := n2_; have BK363 := n3_; have BK370 := n4_; have BK376 := n5_; have HB := n6_; have BK382 := n7_; have GW382 := n8_; have GE382 := n9_; have NB363_382 := n10_; have NB382_363 := n11_; have NB370_382 := n12_; have NB382_370 := n13_; have NB376_382 := n14_; have NB382_376 := n15_; clear n0_ n1_ n2_ n3_ n4_ n5_ n6_ n7_ n8_ n9_ n10_ n11_ n12_ n13_ n14_ n15_; clear hb hbox hg; obtain ⟨Ao39, co39, eo39⟩ := Kd.R_slice HO379.out; subst eo39; have hnb40 := NB382_363.out; have hnc40 := NB363_382.out; have hnb41 := NB382_370.out; have hnc41 := NB370_382.out; have hnb42 := NB382_376.out; have hnc42 := NB376_382.out; have hcz43_0 : w38.cell? ⟨gb382, 0, none⟩ = some (.slice none 0 0) := (blk_cell BK382.out 0).trans rfl; have hfz43_0 := blk_frozen BK382.out 0; have hcz44_0 : w38.cell? ⟨gb376, 0, none⟩ = some (.slice Ao32 t371.length co32) := (blk_cell BK376.out 0).trans rfl; have hfz44_0 := blk_frozen BK376.out 0) | ((with_reducible refine gate_callee (f := 23) rfl ?_); refine goesL_ (some 81) rfl rfl Tryd.func23 (by kernel_rfl) rfl #[.agg #[.slice Ao32 t371.length co32], .agg #[.slice Ao39 t377.length co39]] rfl (by (try simp only [List.map_toArray, List.map_cons, List.map_nil]); first | done | rfl | (simp only [List.length_drop, List.length_take]; rfl)) ?_; (with_reducible refine (snowlineref02_Same.calls kj6 _ _ t371 _ _ t377 true _ ?side1 ?side2 ?side3 ?side4 A22.out).mono ?_); (case side1 => refine (Kd.R_reads' (e := 48) (base := w.heap.size) (ok := fun k_ => ((True ∧ some k_ ≠ (.slice Ao27 t365.length co27 : Value).ownBlock) ∧ some k_ ≠ (.slice Ao39 t377.length co39 : Value).ownBlock)) (n := t371.length) (c := co32) ?_).2.2; exact (by (with_reducible repeat (first | apply Kd.R_alloc | apply Kd.R_drewN | apply Kd.R_drew)); exact (Kd.R_mono (Kd.R_far (p := ⟨gb382, 0, none⟩) (Kd.R_types HO373.out BK382.out (by decide)) (fun _ hk => hk.2) (.slice Ao39 t377.length co39)) (fun _ h_ => h_.1)))); (case side2 => exact (Kd.R_reads' HO373.out).2.1); (case side3 => refine (Kd.R_reads' (e := 48) (base := w.heap.size) (ok := fun k_ => ((True ∧ some k_ ≠ (.slice Ao27 t365.length co27 : Value).ownBlock) ∧ some k_ ≠ (.slice Ao32 t371.length co32 : Value).ownBlock)) (n := t377.length) (c := co39) ?_).2.2; exact (by (with_reducible repeat (first | apply Kd.R_alloc | apply Kd.R_drewN | apply Kd.R_drew)); exact (Kd.R_mono (Kd.R_far (p := ⟨gb382, 0, none⟩) (Kd.R_types HO379.out BK382.out (by decide)) (fun _ hk => hk.2) (.slice Ao39 t377.length co39)) (fun _ h_ => h_.1)))); (case side4 => exact (Kd.R_reads' HO379.out).2.1); rintro e w45 ⟨rfl, hb⟩; refine ⟨_, rfl, ?_⟩; have n0_ := Aside0.mk (Kd.R_below (by (with_reducible repeat (first | apply Kd.R_alloc | apply Kd.R_drewN | apply Kd.R_drew)); exact (Kd.R_mono (Kd.R_far (p := ⟨gb382, 0, none⟩) (Kd.R_types HO367.out BK382.out (by decide)) (fun _ hk => hk.2) (.slice Ao39 t377.length co39)) (fun _ h_ => h_.1))) hb); have n1_ := Aside0.mk (Kd.R_below (by (with_reducible repeat (first | apply Kd.R_alloc | apply Kd.R_drewN | apply Kd.R_drew)); exact (Kd.R_mono (Kd.R_far (p := ⟨gb382, 0, none⟩) (Kd.R_types HO373.out BK382.out (by decide)) (fun _ hk => hk.2) (.slice Ao39 t377.length co39)) (fun _ h_ => h_.1))) hb); have n2_ := Aside0.mk (Kd.R_below (by (with_reducible repeat (first | apply Kd.R_alloc | apply Kd.R_drewN | apply Kd.R_drew)); exact (Kd.R_mono (Kd.R_far (p := ⟨gb382, 0, none⟩) (Kd.R_types HO379.out BK382.out (by decide)) (fun _ hk => hk.2) (.slice Ao39 t377.length co39)) (fun _ h_ => h_.1))) hb); have n3_ := Aside0.mk (blk_below (g := gb363) (o := .cells #[.slice A0_0 l0_0.length c0_0] 24 (0, 0)) (by (with_reducible repeat (first | refine blk_drewN ?_ _ | refine blk_drew ?_ | refine blk_alloc ?_ _)); refine blk_far ?_ NB363_382.out _; (with_reducible repeat (first | refine blk_drewN ?_ _ | refine blk_drew ?_ | refine blk_alloc ?_ _)); exact BK363.out) hb); have n4_ := Aside0.mk (blk_below (g := gb370) (o := .cells #[.slice Ao27 t365.length co27] 24 (0, 0)) (by (with_reducible repeat (first | refine blk_drewN ?_ _ | refine blk_drew ?_ | refine blk_alloc ?_ _)); refine blk_far ?_ NB370_382.out _; (with_reducible repeat (first | refine blk_drewN ?_ _ | refine blk_drew ?_ | refine blk_alloc ?_ _)); exact BK370.out) hb); have n5_ := Aside0.mk (blk_below (g := gb376) (o := .cells #[.slice Ao32 t371.length co32] 24 (0, 0)) (by (with_reducible repeat (first | refine blk_drewN ?_ _ | refine blk_drew ?_ | refine blk_alloc ?_ _)); refine blk_far ?_ NB376_382.out _; (with_reducible repeat (first | refine blk_drewN ?_ _ | refine blk_drew ?_ | refine blk_alloc ?_ _)); exact BK376.out) hb); have n6_ := Aside0.mk (blk_below (g := gb382) (o := .cells #[.slice Ao39 t377.length co39] 24 (0, 0)) (by (with_reducible repeat (first | refine blk_drewN ?_ _ | refine blk_drew ?_ | refine blk_alloc ?_ _)); refine blk_put (cs := #[.slice none 0 0]) ?_ 0 _ rfl; (with_reducible repeat (first | refine blk_drewN ?_ _ | refine blk_drew ?_ | refine blk_alloc ?_ _)); exact BK382.out) hb); have n7_ := Aside0.mk (below_step (by repeat (first | (with_reducible first | exact HB.out | apply below_alloc | apply pw_below_drewN | apply below_drew1 | refine below_set ?_ GE363.out | refine below_set ?_ GE370.out | refine below_set ?_ GE376.out | refine below_set ?_ GE382.out) | exact HB.out)) hb); clear HO367; clear HO373; clear HO379; clear BK363; clear BK370; clear BK376; clear BK382; clear HB; have HO367 := n0_; have HO373 := n1_; have HO379 := n2_; have BK363 := n3_; have BK370 := n4_; have BK376 := n5_; have BK382 := n6_; have HB := n7_; clear n0_ n1_ n2_ n3_ n4_ n5_ n6_ n7_; (try clear hb); (try clear hb2); (try clear hk); (try clear hi)))
                  go_ret
                  exact ⟨by first | rfl | (simp [errW_none, errW_some] <;> rfl) | (simp [*, errW_none, errW_some] <;> rfl), by repeat (first | (with_reducible first | exact HB.out | apply below_alloc | apply pw_below_drewN | apply below_drew1 | refine below_set ?_ GE363.out | refine below_set ?_ GE370.out | refine below_set ?_ GE376.out | refine below_set ?_ GE382.out) | exact HB.out)⟩
                · replace c23 := Bool.eq_false_iff.mpr c23
                  subst c23
                  have H1 : (some false) = some r := by rw [if_neg (show ¬ (false = true) by decide)] at H; exact H
                  clear H
                  have H := H1
                  clear H1
                  obtain rfl := Option.some.inj H
                  have hcz46_0 : wc.cell? ⟨gb363, 0, none⟩ = some (.slice A0_0 l0_0.length c0_0) := (blk_cell BK363.out 0).trans rfl
                  have hfz46_0 := blk_frozen BK363.out 0
                  go_wp2_with (first | ((with_reducible refine gate_callee (f := 21) rfl ?_); refine goesL_ (some 47) rfl rfl Tryd.func21 (by kernel_rfl) rfl #[.agg #[.slice A0_0 l0_0.length c0_0], .agg #[.int .i64 a1, .int .i64 a2, .int .i64 0]] rfl (by (try simp only [List.map_toArray, List.map_cons, List.map_nil]); first | done | rfl | (simp only [List.length_drop, List.length_take]; rfl)) ?_; (with_reducible refine (pack_Apply.calls _ _ l0_0 a1 a2 0 t365 t368 t369 _ ?side1 ?side2 A16.out).mono ?_); (case side1 => repeat (first | exact (Kd.C_below HR0_0.out HB.out) | (with_reducible refine Kd.C_alloc ?_ _) | (with_reducible refine Kd.C_drewN ?_ _) | (with_reducible refine Kd.C_drew ?_))); (case side2 => exact HC0_0.out); rintro e w47 ⟨v366, rfl, ho0, hb⟩; refine ⟨_, rfl, ?_⟩; have n0_ := Aside0.mk (Kd.R_lower ho0 (below_size (by repeat (first | (with_reducible first | exact HB.out | apply below_alloc | apply pw_below_drewN | apply below_drew1 | refine below_set ?_ GE363.out) | exact HB.out)))); have n1_ := Aside0.mk (blk_below (g := gb363) (o := .cells #[.slice A0_0 l0_0.length c0_0] 24 (0, 0)) (by (with_reducible repeat (first | refine blk_drewN ?_ _ | refine blk_drew ?_ | refine blk_alloc ?_ _)); exact BK363.out) hb); have n2_ := Aside0.mk (below_step (by repeat (first | (with_reducible first | exact HB.out | apply below_alloc | apply pw_below_drewN | apply below_drew1 | refine below_set ?_ GE363.out) | exact HB.out)) hb); clear BK363; clear HB; have HO367 := n0_; have BK363 := n1_; have HB := n2_; clear n0_ n1_ n2_; (try clear hb); (try clear hb2); (try clear hk); (try clear hi); (try clear ho0)) | ((with_reducible refine gate_dst (N := 9) rfl ?_); refine box_event ?hg (N := 9) ?hd (cs := #[.slice none 0 0]) (t := 24) ?hr ?_; (case hd => rfl); (case hg => rfl); (case hr => first | (go_simp; done) | (go_simp; rfl)); intro gb370 hg w48 hbox hb; have n0_ := Aside0.mk (Kd.R_below (by (with_reducible repeat (first | apply Kd.R_alloc | apply Kd.R_drewN | apply Kd.R_drew)); exact HO367.out) hb); have n1_ := Aside0.mk (blk_below (g := gb363) (o := .cells #[.slice A0_0 l0_0.length c0_0] 24 (0, 0)) (by (with_reducible repeat (first | refine blk_drewN ?_ _ | refine blk_drew ?_ | refine blk_alloc ?_ _)); exact BK363.out) hb); have n2_ := Aside0.mk (below_step (by repeat (first | (with_reducible first | exact HB.out | apply below_alloc | apply pw_below_drewN | apply below_drew1 | refine below_set ?_ GE363.out) | exact HB.out)) hb); have n3_ := Aside0.mk (hbox); have n4_ := Aside0.mk ((by rw [hg]; exact (below_size (by repeat (first | (with_reducible first | exact HB.out | apply below_alloc | apply pw_below_drewN | apply below_drew1 | refine below_set ?_ GE363.out) | exact HB.out))) : w.heap.size ≤ gb370)); have n5_ := Aside0.mk ((by rw [hg]; exact (below_size (by repeat (first | (with_reducible first | exact HB.out | apply below_alloc | apply pw_below_drewN | apply below_drew1 | refine below_set ?_ GE363.out) | exact HB.out))) : w.heap.size ≤ gb370)); have n6_ := Aside0.mk ((by rw [hg]; exact Nat.ne_of_lt (blk_lt (g := gb363) (o := .cells #[.slice A0_0 l0_0.length c0_0] 24 (0, 0)) (by (with_reducible repeat (first | refine blk_drewN ?_ _ | refine blk_drew ?_ | refine blk_alloc ?_ _)); exact BK363.out)) : gb363 ≠ gb370)); have n7_ := Aside0.mk ((by rw [hg]; exact Nat.ne_of_gt (blk_lt (g := gb363) (o := .cells #[.slice A0_0 l0_0.length c0_0] 24 (0, 0)) (by (with_reducible repeat (first | refine blk_drewN ?_ _ | refine blk_drew ?_ | refine blk_alloc ?_ _)); exact BK363.out)) : gb370 ≠ gb363)); clear HO367; clear BK363; clear HB; have HO367 := n0_; have BK363 := n1_; have HB := n2_; have BK370 := n3_; have GW370 := n4_; have GE370 := n5_; have NB363_370 := n6_; have NB370_363 := n7_; clear n0_ n1_ n2_ n3_ n4_ n5_ n6_ n7_; clear hb hbox hg; obtain ⟨Ao49, co49, eo49⟩ := Kd.R_slice HO367.out; subst eo49; have hnb50 := NB370_363.out; have hnc50 := NB363_370.out; have hcz51_0 : w48.cell? ⟨gb370, 0, none⟩ = some (.slice none 0 0) := (blk_cell BK370.out 0).trans rfl; have hfz51_0 := blk_frozen BK370.out 0) | ((with_reducible refine gate_callee (f := 21) rfl ?_); refine goesL_ (some 58) rfl rfl Tryd.func21 (by kernel_rfl) rfl #[.agg #[.slice Ao49 t365.length co49], .agg #[.int .i64 a1, .int .i64 a3, .int .i64 0]] rfl (by (try simp only [List.map_toArray, List.map_cons, List.map_nil]); first | done | rfl | (simp only [List.length_drop, List.length_take]; rfl)) ?_; (with_reducible refine (pack_Apply.calls _ _ t365 a1 a3 0 t371 t374 t375 _ ?side1 ?side2 A18.out).mono ?_); (case side1 => refine (Kd.R_reads' (e := 48) (base := w.heap.size) (ok := fun k_ => True) (n := t365.length) (c := co49) ?_).2.2; exact (by (with_reducible repeat (first | apply Kd.R_alloc | apply Kd.R_drewN | apply Kd.R_drew)); exact (Kd.R_mono (Kd.R_far (p := ⟨gb370, 0, none⟩) (Kd.R_types HO367.out BK370.out (by decide)) (fun _ hk => hk.2) (.slice Ao49 t365.length co49)) (fun _ h_ => h_.1)))); (case side2 => exact (Kd.R_reads' HO367.out).2.1); rintro e w52 ⟨v372, rfl, ho0, hb⟩; refine ⟨_, rfl, ?_⟩; have n0_ := Aside0.mk (Kd.R_elder' (by (with_reducible repeat (first | apply Kd.R_alloc | apply Kd.R_drewN | apply Kd.R_drew)); exact (Kd.R_mono (Kd.R_far (p := ⟨gb370, 0, none⟩) (Kd.R_types HO367.out BK370.out (by decide)) (fun _ hk => hk.2) (.slice Ao49 t365.length co49)) (fun _ h_ => h_.1))) (Kd.R_base ho0) hb); have n1_ := Aside0.mk (Kd.R_lower (Kd.R_new' ho0 (Kd.R_lt (by (with_reducible repeat (first | apply Kd.R_alloc | apply Kd.R_drewN | apply Kd.R_drew)); exact (Kd.R_mono (Kd.R_far (p := ⟨gb370, 0, none⟩) (Kd.R_types HO367.out BK370.out (by decide)) (fun _ hk => hk.2) (.slice Ao49 t365.length co49)) (fun _ h_ => h_.1))))) (below_size (by repeat (first | (with_reducible first | exact HB.out | apply below_alloc | apply pw_below_drewN | apply below_drew1 | refine below_set ?_ GE363.out | refine below_set ?_ GE370.out) | exact HB.out)))); have n2_ := Aside0.mk (blk_below (g := gb363) (o := .cells #[.slice A0_0 l0_0.length c0_0] 24 (0, 0)) (by (with_reducible repeat (first | refine blk_drewN ?_ _ | refine blk_drew ?_ | refine blk_alloc ?_ _)); refine blk_far ?_ NB363_370.out _; (with_reducible repeat (first | refine blk_drewN ?_ _ | refine blk_drew ?_ | refine blk_alloc ?_ _)); exact BK363.out) hb); have n3_ := Aside0.mk (blk_below (g := gb370) (o := .cells #[.slice Ao49 t365.length co49] 24 (0, 0)) (by (with_reducible repeat (first | refine blk_drewN ?_ _ | refine blk_drew ?_ | refine blk_alloc ?_ _)); refine blk_put (cs := #[.slice none 0 0]) ?_ 0 _ rfl; (with_reducible repeat (first | refine blk_drewN ?_ _ | refine blk_drew ?_ | refine blk_alloc ?_ _)); exact BK370.out) hb); have n4_ := Aside0.mk (below_step (by repeat (first | (with_reducible first | exact HB.out | apply below_alloc | apply pw_below_drewN | apply below_drew1 | refine below_set ?_ GE363.out | refine below_set ?_ GE370.out) | exact HB.out)) hb); clear HO367; clear BK363; clear BK370; clear HB; have HO367 := n0_; have HO373 := n1_; have BK363 := n2_; have BK370 := n3_; have HB := n4_; clear n0_ n1_ n2_ n3_ n4_; (try clear hb); (try clear hb2); (try clear hk); (try clear hi); (try clear ho0)) | ((with_reducible refine gate_dst (N := 12) rfl ?_); refine box_event ?hg (N := 12) ?hd (cs := #[.slice none 0 0]) (t := 24) ?hr ?_; (case hd => rfl); (case hg => rfl); (case hr => first | (go_simp; done) | (go_simp; rfl)); intro gb376 hg w53 hbox hb; have n0_ := Aside0.mk (Kd.R_below (by (with_reducible repeat (first | apply Kd.R_alloc | apply Kd.R_drewN | apply Kd.R_drew)); exact HO367.out) hb); have n1_ := Aside0.mk (Kd.R_below (by (with_reducible repeat (first | apply Kd.R_alloc | apply Kd.R_drewN | apply Kd.R_drew)); exact HO373.out) hb); have n2_ := Aside0.mk (blk_below (g := gb363) (o := .cells #[.slice A0_0 l0_0.length c0_0] 24 (0, 0)) (by (with_reducible repeat (first | refine blk_drewN ?_ _ | refine blk_drew ?_ | refine blk_alloc ?_ _)); exact BK363.out) hb); have n3_ := Aside0.mk (blk_below (g := gb370) (o := .cells #[.slice Ao49 t365.length co49] 24 (0, 0)) (by (with_reducible repeat (first | refine blk_drewN ?_ _ | refine blk_drew ?_ | refine blk_alloc ?_ _)); exact BK370.out) hb); have n4_ := Aside0.mk (below_step (by repeat (first | (with_reducible first | exact HB.out | apply below_alloc | apply pw_below_drewN | apply below_drew1 | refine below_set ?_ GE363.out | refine below_set ?_ GE370.out) | exact HB.out)) hb); have n5_ := Aside0.mk (hbox); have n6_ := Aside0.mk ((by rw [hg]; exact (below_size (by repeat (first | (with_reducible first | exact HB.out | apply below_alloc | apply pw_below_drewN | apply below_drew1 | refine below_set ?_ GE363.out | refine below_set ?_ GE370.out) | exact HB.out))) : w.heap.size ≤ gb376)); have n7_ := Aside0.mk ((by rw [hg]; exact (below_size (by repeat (first | (with_reducible first | exact HB.out | apply below_alloc | apply pw_below_drewN | apply below_drew1 | refine below_set ?_ GE363.out | refine below_set ?_ GE370.out) | exact HB.out))) : w.heap.size ≤ gb376)); have n8_ := Aside0.mk ((by rw [hg]; exact Nat.ne_of_lt (blk_lt (g := gb363) (o := .cells #[.slice A0_0 l0_0.length c0_0] 24 (0, 0)) (by (with_reducible repeat (first | refine blk_drewN ?_ _ | refine blk_drew ?_ | refine blk_alloc ?_ _)); exact BK363.out)) : gb363 ≠ gb376)); have n9_ := Aside0.mk ((by rw [hg]; exact Nat.ne_of_gt (blk_lt (g := gb363) (o := .cells #[.slice A0_0 l0_0.length c0_0] 24 (0, 0)) (by (with_reducible repeat (first | refine blk_drewN ?_ _ | refine blk_drew ?_ | refine blk_alloc ?_ _)); exact BK363.out)) : gb376 ≠ gb363)); have n10_ := Aside0.mk ((by rw [hg]; exact Nat.ne_of_lt (blk_lt (g := gb370) (o := .cells #[.slice Ao49 t365.length co49] 24 (0, 0)) (by (with_reducible repeat (first | refine blk_drewN ?_ _ | refine blk_drew ?_ | refine blk_alloc ?_ _)); exact BK370.out)) : gb370 ≠ gb376)); have n11_ := Aside0.mk ((by rw [hg]; exact Nat.ne_of_gt (blk_lt (g := gb370) (o := .cells #[.slice Ao49 t365.length co49] 24 (0, 0)) (by (with_reducible repeat (first | refine blk_drewN ?_ _ | refine blk_drew ?_ | refine blk_alloc ?_ _)); exact BK370.out)) : gb376 ≠ gb370)); clear HO367; clear HO373; clear BK363; clear BK370; clear HB; have HO367 := n0_; have HO373 := n1_; have BK363 := n2_; have BK370 := n3_; have HB := n4_; have BK376 := n5_; have GW376 := n6_; have GE376 := n7_; have NB363_376 := n8_; have NB376_363 := n9_; have NB370_376 := n10_; have NB376_370 := n11_; clear n0_ n1_ n2_ n3_ n4_ n5_ n6_ n7_ n8_ n9_ n10_ n11_; clear hb hbox hg; obtain ⟨Ao54, co54, eo54⟩ := Kd.R_slice HO373.out; subst eo54; have hnb55 := NB376_363.out; have hnc55 := NB363_376.out; have hnb56 := NB376_370.out; have hnc56 := NB370_376.out; have hcz57_0 : w53.cell? ⟨gb376, 0, none⟩ = some (.slice none 0 0) := (blk_cell BK376.out 0).trans rfl; have hfz57_0 := blk_frozen BK376.out 0; have hcz58_0 : w53.cell? ⟨gb363, 0, none⟩ = some (.slice A0_0 l0_0.length c0_0) := (blk_cell BK363.out 0).trans rfl; have hfz58_0 := blk_frozen BK363.out 0) | ((with_reducible refine gate_callee (f := 21) rfl ?_); refine goesL_ (some 69) rfl rfl Tryd.func21 (by kernel_rfl) rfl #[.agg #[.slice A0_0 l0_0.length c0_0], .agg #[.int .i64 a1, .int .i64 (wrap64 (a2 + a3)), .int .i64 0]] rfl (by (try simp only [List.map_toArray, List.map_cons, List.map_nil]); first | done | rfl | (simp only [List.length_drop, List.length_take]; rfl)) ?_; (with_reducible refine (pack_Apply.calls _ _ l0_0 a1 (wrap64 (a2 + a3)) 0 t377 t380 t381 _ ?side1 ?side2 A19.out).mono ?_); (case side1 => exact Kd.C_below HR0_0.out (by repeat (first | (with_reducible first | exact HB.out | apply below_alloc | apply pw_below_drewN | apply below_drew1 | refine below_set ?_ GE363.out | refine below_set ?_ GE370.out | refine below_set ?_ GE376.out) | exact HB.out))); (case side2 => exact HC0_0.out); rintro e w59 ⟨v378, rfl, ho0, hb⟩; refine ⟨_, rfl, ?_⟩; have n0_ := Aside0.mk (Kd.R_elder' (by (with_reducible repeat (first | apply Kd.R_alloc | apply Kd.R_drewN | apply Kd.R_drew)); exact (Kd.R_mono (Kd.R_far (p := ⟨gb376, 0, none⟩) (Kd.R_types HO367.out BK376.out (by decide)) (fun _ hk => hk.2) (.slice Ao54 t371.length co54)) (fun _ h_ => h_.1))) (Kd.R_base ho0) hb); have n1_ := Aside0.mk (Kd.R_elder' (by (with_reducible repeat (first | apply Kd.R_alloc | apply Kd.R_drewN | apply Kd.R_drew)); exact (Kd.R_mono (Kd.R_far (p := ⟨gb376, 0, none⟩) (Kd.R_types HO373.out BK376.out (by decide)) (fun _ hk => hk.2) (.slice Ao54 t371.length co54)) (fun _ h_ => h_.1))) (Kd.R_base ho0) hb); have n2_ := Aside0.mk (Kd.R_lower (Kd.R_new' (Kd.R_new' ho0 (Kd.R_lt (by (with_reducible repeat (first | apply Kd.R_alloc | apply Kd.R_drewN | apply Kd.R_drew)); exact (Kd.R_mono (Kd.R_far (p := ⟨gb376, 0, none⟩) (Kd.R_types HO367.out BK376.out (by decide)) (fun _ hk => hk.2) (.slice Ao54 t371.length co54)) (fun _ h_ => h_.1))))) (Kd.R_lt (by (with_reducible repeat (first | apply Kd.R_alloc | apply Kd.R_drewN | apply Kd.R_drew)); exact (Kd.R_mono (Kd.R_far (p := ⟨gb376, 0, none⟩) (Kd.R_types HO373.out BK376.out (by decide)) (fun _ hk => hk.2) (.slice Ao54 t371.length co54)) (fun _ h_ => h_.1))))) (below_size (by repeat (first | (with_reducible first | exact HB.out | apply below_alloc | apply pw_below_drewN | apply below_drew1 | refine below_set ?_ GE363.out | refine below_set ?_ GE370.out | refine below_set ?_ GE376.out) | exact HB.out)))); have n3_ := Aside0.mk (blk_below (g := gb363) (o := .cells #[.slice A0_0 l0_0.length c0_0] 24 (0, 0)) (by (with_reducible repeat (first | refine blk_drewN ?_ _ | refine blk_drew ?_ | refine blk_alloc ?_ _)); refine blk_far ?_ NB363_376.out _; (with_reducible repeat (first | refine blk_drewN ?_ _ | refine blk_drew ?_ | refine blk_alloc ?_ _)); exact BK363.out) hb); have n4_ := Aside0.mk (blk_below (g := gb370) (o := .cells #[.slice Ao49 t365.length co49] 24 (0, 0)) (by (with_reducible repeat (first | refine blk_drewN ?_ _ | refine blk_drew ?_ | refine blk_alloc ?_ _)); refine blk_far ?_ NB370_376.out _; (with_reducible repeat (first | refine blk_drewN ?_ _ | refine blk_drew ?_ | refine blk_alloc ?_ _)); exact BK370.out) hb); have n5_ := Aside0.mk (blk_below (g := gb376) (o := .cells #[.slice Ao54 t371.length co54] 24 (0, 0)) (by (with_reducible repeat (first | refine blk_drewN ?_ _ | refine blk_drew ?_ | refine blk_alloc ?_ _)); refine blk_put (cs := #[.slice none 0 0]) ?_ 0 _ rfl; (with_reducible repeat (first | refine blk_drewN ?_ _ | refine blk_drew ?_ | refine blk_alloc ?_ _)); exact BK376.out) hb); have n6_ := Aside0.mk (below_step (by repeat (first | (with_reducible first | exact HB.out | apply below_alloc | apply pw_below_drewN | apply below_drew1 | refine below_set ?_ GE363.out | refine below_set ?_ GE370.out | refine below_set ?_ GE376.out) | exact HB.out)) hb); clear HO367; clear HO373; clear BK363; clear BK370; clear BK376; clear HB; have HO367 := n0_; have HO373 := n1_; have HO379 := n2_; have BK363 := n3_; have BK370 := n4_; have BK376 := n5_; have HB := n6_; clear n0_ n1_ n2_ n3_ n4_ n5_ n6_; (try clear hb); (try clear hb2); (try clear hk); (try clear hi); (try clear ho0)) | ((with_reducible refine gate_dst (N := 15) rfl ?_); refine box_event ?hg (N := 15) ?hd (cs := #[.slice none 0 0]) (t := 24) ?hr ?_; (case hd => rfl); (case hg => rfl); (case hr => first | (go_simp; done) | (go_simp; rfl)); intro gb382 hg w60 hbox hb; have n0_ := Aside0.mk (Kd.R_below (by (with_reducible repeat (first | apply Kd.R_alloc | apply Kd.R_drewN | apply Kd.R_drew)); exact HO367.out) hb); have n1_ := Aside0.mk (Kd.R_below (by (with_reducible repeat (first | apply Kd.R_alloc | apply Kd.R_drewN | apply Kd.R_drew)); exact HO373.out) hb); have n2_ := Aside0.mk (Kd.R_below (by (with_reducible repeat (first | apply Kd.R_alloc | apply Kd.R_drewN | apply Kd.R_drew)); exact HO379.out) hb); have n3_ := Aside0.mk (blk_below (g := gb363) (o := .cells #[.slice A0_0 l0_0.length c0_0] 24 (0, 0)) (by (with_reducible repeat (first | refine blk_drewN ?_ _ | refine blk_drew ?_ | refine blk_alloc ?_ _)); exact BK363.out) hb); have n4_ := Aside0.mk (blk_below (g := gb370) (o := .cells #[.slice Ao49 t365.length co49] 24 (0, 0)) (by (with_reducible repeat (first | refine blk_drewN ?_ _ | refine blk_drew ?_ | refine blk_alloc ?_ _)); exact BK370.out) hb); have n5_ := Aside0.mk (blk_below (g := gb376) (o := .cells #[.slice Ao54 t371.length co54] 24 (0, 0)) (by (with_reducible repeat (first | refine blk_drewN ?_ _ | refine blk_drew ?_ | refine blk_alloc ?_ _)); exact BK376.out) hb); have n6_ := Aside0.mk (below_step (by repeat (first | (with_reducible first | exact HB.out | apply below_alloc | apply pw_below_drewN | apply below_drew1 | refine below_set ?_ GE363.out | refine below_set ?_ GE370.out | refine below_set ?_ GE376.out) | exact HB.out)) hb); have n7_ := Aside0.mk (hbox); have n8_ := Aside0.mk ((by rw [hg]; exact (below_size (by repeat (first | (with_reducible first | exact HB.out | apply below_alloc | apply pw_below_drewN | apply below_drew1 | refine below_set ?_ GE363.out | refine below_set ?_ GE370.out | refine below_set ?_ GE376.out) | exact HB.out))) : w.heap.size ≤ gb382)); have n9_ := Aside0.mk ((by rw [hg]; exact (below_size (by repeat (first | (with_reducible first | exact HB.out | apply below_alloc | apply pw_below_drewN | apply below_drew1 | refine below_set ?_ GE363.out | refine below_set ?_ GE370.out | refine below_set ?_ GE376.out) | exact HB.out))) : w.heap.size ≤ gb382)); have n10_ := Aside0.mk ((by rw [hg]; exact Nat.ne_of_lt (blk_lt (g := gb363) (o := .cells #[.slice A0_0 l0_0.length c0_0] 24 (0, 0)) (by (with_reducible repeat (first | refine blk_drewN ?_ _ | refine blk_drew ?_ | refine blk_alloc ?_ _)); exact BK363.out)) : gb363 ≠ gb382)); have n11_ := Aside0.mk ((by rw [hg]; exact Nat.ne_of_gt (blk_lt (g := gb363) (o := .cells #[.slice A0_0 l0_0.length c0_0] 24 (0, 0)) (by (with_reducible repeat (first | refine blk_drewN ?_ _ | refine blk_drew ?_ | refine blk_alloc ?_ _)); exact BK363.out)) : gb382 ≠ gb363)); have n12_ := Aside0.mk ((by rw [hg]; exact Nat.ne_of_lt (blk_lt (g := gb370) (o := .cells #[.slice Ao49 t365.length co49] 24 (0, 0)) (by (with_reducible repeat (first | refine blk_drewN ?_ _ | refine blk_drew ?_ | refine blk_alloc ?_ _)); exact BK370.out)) : gb370 ≠ gb382)); have n13_ := Aside0.mk ((by rw [hg]; exact Nat.ne_of_gt (blk_lt (g := gb370) (o := .cells #[.slice Ao49 t365.length co49] 24 (0, 0)) (by (with_reducible repeat (first | refine blk_drewN ?_ _ | refine blk_drew ?_ | refine blk_alloc ?_ _)); exact BK370.out)) : gb382 ≠ gb370)); have n14_ := Aside0.mk ((by rw [hg]; exact Nat.ne_of_lt (blk_lt (g := gb376) (o := .cells #[.slice Ao54 t371.length co54] 24 (0, 0)) (by (with_reducible repeat (first | refine blk_drewN ?_ _ | refine blk_drew ?_ | refine blk_alloc ?_ _)); exact BK376.out)) : gb376 ≠ gb382)); have n15_ := Aside0.mk ((by rw [hg]; exact Nat.ne_of_gt (blk_lt (g := gb376) (o := .cells #[.slice Ao54 t371.length co54] 24 (0, 0)) (by (with_reducible repeat (first | refine blk_drewN ?_ _ | refine blk_drew ?_ | refine blk_alloc ?_ _)); exact BK376.out)) : gb382 ≠ gb376)); clear HO367; clear HO373; clear HO379; clear BK363; clear BK370; clear BK376; clear HB; have HO367 := n0_; have HO373 := n1_; have HO379 := n2_; have BK363 := n3_; have BK370 := n4_; have BK376 := n5_; have HB := n6_; have BK382 := n7_; have GW382 := n8_; have GE382 := n9_; have NB363_382 := n10_; have NB382_363 := n11_; have NB370_382 := n12_; have NB382_370 := n13_; have NB376_382 := n14_; have NB382_376 := n15_; clear n0_ n1_ n2_ n3_ n4_ n5_ n6_ n7_ n8_ n9_ n10_ n11_ n12_ n13_ n14_ n15_; clear hb hbox hg; obtain ⟨Ao61, co61, eo61⟩ := Kd.R_slice HO379.out; subst eo61; have hnb62 := NB382_363.out; have hnc62 := NB363_382.out; have hnb63 := NB382_370.out; have hnc63 := NB370_382.out; have hnb64 := NB382_376.out; have hnc64 := NB376_382.out; have hcz65_0 : w60.cell? ⟨gb382, 0, none⟩ = some (.slice none 0 0) := (blk_cell BK382.out 0).trans rfl; have hfz65_0 := blk_frozen BK382.out 0; have hcz66_0 : w60.cell? ⟨gb376, 0, none⟩ = some (.slice Ao54 t371.length co54) := (blk_cell BK376.out 0).trans rfl; have hfz66_0 := blk_frozen BK376.out 0) | ((with_reducible refine gate_callee (f := 23) rfl ?_); refine goesL_ (some 81) rfl rfl Tryd.func23 (by kernel_rfl) rfl #[.agg #[.slice Ao54 t371.length co54], .agg #[.slice Ao61 t377.length co61]] rfl (by (try simp only [List.map_toArray, List.map_cons, List.map_nil]); first | done | rfl | (simp only [List.length_drop, List.length_take]; rfl)) ?_; (with_reducible refine (snowlineref02_Same.calls kj6 _ _ t371 _ _ t377 false _ ?side1 ?side2 ?side3 ?side4 A22.out).mono ?_); (case side1 => refine (Kd.R_reads' (e := 48) (base := w.heap.size) (ok := fun k_ => ((True ∧ some k_ ≠ (.slice Ao49 t365.length co49 : Value).ownBlock) ∧ some k_ ≠ (.slice Ao61 t377.length co61 : Value).ownBlock)) (n := t371.length) (c := co54) ?_).2.2; exact (by (with_reducible repeat (first | apply Kd.R_alloc | apply Kd.R_drewN | apply Kd.R_drew)); exact (Kd.R_mono (Kd.R_far (p := ⟨gb382, 0, none⟩) (Kd.R_types HO373.out BK382.out (by decide)) (fun _ hk => hk.2) (.slice Ao61 t377.length co61)) (fun _ h_ => h_.1)))); (case side2 => exact (Kd.R_reads' HO373.out).2.1); (case side3 => refine (Kd.R_reads' (e := 48) (base := w.heap.size) (ok := fun k_ => ((True ∧ some k_ ≠ (.slice Ao49 t365.length co49 : Value).ownBlock) ∧ some k_ ≠ (.slice Ao54 t371.length co54 : Value).ownBlock)) (n := t377.length) (c := co61) ?_).2.2; exact (by (with_reducible repeat (first | apply Kd.R_alloc | apply Kd.R_drewN | apply Kd.R_drew)); exact (Kd.R_mono (Kd.R_far (p := ⟨gb382, 0, none⟩) (Kd.R_types HO379.out BK382.out (by decide)) (fun _ hk => hk.2) (.slice Ao61 t377.length co61)) (fun _ h_ => h_.1)))); (case side4 => exact (Kd.R_reads' HO379.out).2.1); rintro e w67 ⟨rfl, hb⟩; refine ⟨_, rfl, ?_⟩; have n0_ := Aside0.mk (Kd.R_below (by (with_reducible repeat (first | apply Kd.R_alloc | apply Kd.R_drewN | apply Kd.R_drew)); exact (Kd.R_mono (Kd.R_far (p := ⟨gb382, 0, none⟩) (Kd.R_types HO367.out BK382.out (by decide)) (fun _ hk => hk.2) (.slice Ao61 t377.length co61)) (fun _ h_ => h_.1))) hb); have n1_ := Aside0.mk (Kd.R_below (by (with_reducible repeat (first | apply Kd.R_alloc | apply Kd.R_drewN | apply Kd.R_drew)); exact (Kd.R_mono (Kd.R_far (p := ⟨gb382, 0, none⟩) (Kd.R_types HO373.out BK382.out (by decide)) (fun _ hk => hk.2) (.slice Ao61 t377.length co61)) (fun _ h_ => h_.1))) hb); have n2_ := Aside0.mk (Kd.R_below (by (with_reducible repeat (first | apply Kd.R_alloc | apply Kd.R_drewN | apply Kd.R_drew)); exact (Kd.R_mono (Kd.R_far (p := ⟨gb382, 0, none⟩) (Kd.R_types HO379.out BK382.out (by decide)) (fun _ hk => hk.2) (.slice Ao61 t377.length co61)) (fun _ h_ => h_.1))) hb); have n3_ := Aside0.mk (blk_below (g := gb363) (o := .cells #[.slice A0_0 l0_0.length c0_0] 24 (0, 0)) (by (with_reducible repeat (first | refine blk_drewN ?_ _ | refine blk_drew ?_ | refine blk_alloc ?_ _)); refine blk_far ?_ NB363_382.out _; (with_reducible repeat (first | refine blk_drewN ?_ _ | refine blk_drew ?_ | refine blk_alloc ?_ _)); exact BK363.out) hb); have n4_ := Aside0.mk (blk_below (g := gb370) (o := .cells #[.slice Ao49 t365.length co49] 24 (0, 0)) (by (with_reducible repeat (first | refine blk_drewN ?_ _ | refine blk_drew ?_ | refine blk_alloc ?_ _)); refine blk_far ?_ NB370_382.out _; (with_reducible repeat (first | refine blk_drewN ?_ _ | refine blk_drew ?_ | refine blk_alloc ?_ _)); exact BK370.out) hb); have n5_ := Aside0.mk (blk_below (g := gb376) (o := .cells #[.slice Ao54 t371.length co54] 24 (0, 0)) (by (with_reducible repeat (first | refine blk_drewN ?_ _ | refine blk_drew ?_ | refine blk_alloc ?_ _)); refine blk_far ?_ NB376_382.out _; (with_reducible repeat (first | refine blk_drewN ?_ _ | refine blk_drew ?_ | refine blk_alloc ?_ _)); exact BK376.out) hb); have n6_ := Aside0.mk (blk_below (g := gb382) (o := .cells #[.slice Ao61 t377.length co61] 24 (0, 0)) (by (with_reducible repeat (first | refine blk_drewN ?_ _ | refine blk_drew ?_ | refine blk_alloc ?_ _)); refine blk_put (cs := #[.slice none 0 0]) ?_ 0 _ rfl; (with_reducible repeat (first | refine blk_drewN ?_ _ | refine blk_drew ?_ | refine blk_alloc ?_ _)); exact BK382.out) hb); have n7_ := Aside0.mk (below_step (by repeat (first | (with_reducible first | exact HB.out | apply below_alloc | apply pw_below_drewN | apply below_drew1 | refine below_set ?_ GE363.out | refine below_set ?_ GE370.out | refine below_set ?_ GE376.out | refine below_set ?_ GE382.out) | exact HB.out)) hb); clear HO367; clear HO373; clear HO379; clear BK363; clear BK370; clear BK376; clear BK382; clear HB; have HO367 := n0_; have HO373 := n1_; have HO379 := n2_; have BK363 := n3_; have BK370 := n4_; have BK376 := n5_; have BK382 := n6_; have HB := n7_; clear n0_ n1_ n2_ n3_ n4_ n5_ n6_ n7_; (try clear hb); (try clear hb2); (try clear hk); (try clear hi)))
                  go_ret
                  exact ⟨by first | rfl | (simp [errW_none, errW_some] <;> rfl) | (simp [*, errW_none, errW_some] <;> rfl), by repeat (first | (with_reducible first | exact HB.out | apply below_alloc | apply pw_below_drewN | apply below_drew1 | refine below_set ?_ GE363.out | refine below_set ?_ GE370.out | refine below_set ?_ GE376.out | refine below_set ?_ GE382.out) | exact HB.out)⟩
              · rw [if_neg c21] at H
                have c21b0 : (t381 == 0) = false := beq_eq_false_iff_ne.mpr c21
                have c21b1 : (t381 != 0) = true := bne_iff_ne.mpr c21
                obtain rfl := Option.some.inj H
                have hcz68_0 : wc.cell? ⟨gb363, 0, none⟩ = some (.slice A0_0 l0_0.length c0_0) := (blk_cell BK363.out 0).trans rfl
                have hfz68_0 := blk_frozen BK363.out 0
                go_wp2_with (first | ((with_reducible refine gate_callee (f := 21) rfl ?_); refine goesL_ (some 47) rfl rfl Tryd.func21 (by kernel_rfl) rfl #[.agg #[.slice A0_0 l0_0.length c0_0], .agg #[.int .i64 a1, .int .i64 a2, .int .i64 0]] rfl (by (try simp only [List.map_toArray, List.map_cons, List.map_nil]); first | done | rfl | (simp only [List.length_drop, List.length_take]; rfl)) ?_; (with_reducible refine (pack_Apply.calls _ _ l0_0 a1 a2 0 t365 t368 t369 _ ?side1 ?side2 A16.out).mono ?_); (case side1 => repeat (first | exact (Kd.C_below HR0_0.out HB.out) | (with_reducible refine Kd.C_alloc ?_ _) | (with_reducible refine Kd.C_drewN ?_ _) | (with_reducible refine Kd.C_drew ?_))); (case side2 => exact HC0_0.out); rintro e w69 ⟨v366, rfl, ho0, hb⟩; refine ⟨_, rfl, ?_⟩; have n0_ := Aside0.mk (Kd.R_lower ho0 (below_size (by repeat (first | (with_reducible first | exact HB.out | apply below_alloc | apply pw_below_drewN | apply below_drew1 | refine below_set ?_ GE363.out) | exact HB.out)))); have n1_ := Aside0.mk (blk_below (g := gb363) (o := .cells #[.slice A0_0 l0_0.length c0_0] 24 (0, 0)) (by (with_reducible repeat (first | refine blk_drewN ?_ _ | refine blk_drew ?_ | refine blk_alloc ?_ _)); exact BK363.out) hb); have n2_ := Aside0.mk (below_step (by repeat (first | (with_reducible first | exact HB.out | apply below_alloc | apply pw_below_drewN | apply below_drew1 | refine below_set ?_ GE363.out) | exact HB.out)) hb); clear BK363; clear HB; have HO367 := n0_; have BK363 := n1_; have HB := n2_; clear n0_ n1_ n2_; (try clear hb); (try clear hb2); (try clear hk); (try clear hi); (try clear ho0)) | ((with_reducible refine gate_dst (N := 9) rfl ?_); refine box_event ?hg (N := 9) ?hd (cs := #[.slice none 0 0]) (t := 24) ?hr ?_; (case hd => rfl); (case hg => rfl); (case hr => first | (go_simp; done) | (go_simp; rfl)); intro gb370 hg w70 hbox hb; have n0_ := Aside0.mk (Kd.R_below (by (with_reducible repeat (first | apply Kd.R_alloc | apply Kd.R_drewN | apply Kd.R_drew)); exact HO367.out) hb); have n1_ := Aside0.mk (blk_below (g := gb363) (o := .cells #[.slice A0_0 l0_0.length c0_0] 24 (0, 0)) (by (with_reducible repeat (first | refine blk_drewN ?_ _ | refine blk_drew ?_ | refine blk_alloc ?_ _)); exact BK363.out) hb); have n2_ := Aside0.mk (below_step (by repeat (first | (with_reducible first | exact HB.out | apply below_alloc | apply pw_below_drewN | apply below_drew1 | refine below_set ?_ GE363.out) | exact HB.out)) hb); have n3_ := Aside0.mk (hbox); have n4_ := Aside0.mk ((by rw [hg]; exact (below_size (by repeat (first | (with_reducible first | exact HB.out | apply below_alloc | apply pw_below_drewN | apply below_drew1 | refine below_set ?_ GE363.out) | exact HB.out))) : w.heap.size ≤ gb370)); have n5_ := Aside0.mk ((by rw [hg]; exact (below_size (by repeat (first | (with_reducible first | exact HB.out | apply below_alloc | apply pw_below_drewN | apply below_drew1 | refine below_set ?_ GE363.out) | exact HB.out))) : w.heap.size ≤ gb370)); have n6_ := Aside0.mk ((by rw [hg]; exact Nat.ne_of_lt (blk_lt (g := gb363) (o := .cells #[.slice A0_0 l0_0.length c0_0] 24 (0, 0)) (by (with_reducible repeat (first | refine blk_drewN ?_ _ | refine blk_drew ?_ | refine blk_alloc ?_ _)); exact BK363.out)) : gb363 ≠ gb370)); have n7_ := Aside0.mk ((by rw [hg]; exact Nat.ne_of_gt (blk_lt (g := gb363) (o := .cells #[.slice A0_0 l0_0.length c0_0] 24 (0, 0)) (by (with_reducible repeat (first | refine blk_drewN ?_ _ | refine blk_drew ?_ | refine blk_alloc ?_ _)); exact BK363.out)) : gb370 ≠ gb363)); clear HO367; clear BK363; clear HB; have HO367 := n0_; have BK363 := n1_; have HB := n2_; have BK370 := n3_; have GW370 := n4_; have GE370 := n5_; have NB363_370 := n6_; have NB370_363 := n7_; clear n0_ n1_ n2_ n3_ n4_ n5_ n6_ n7_; clear hb hbox hg; obtain ⟨Ao71, co71, eo71⟩ := Kd.R_slice HO367.out; subst eo71; have hnb72 := NB370_363.out; have hnc72 := NB363_370.out; have hcz73_0 : w70.cell? ⟨gb370, 0, none⟩ = some (.slice none 0 0) := (blk_cell BK370.out 0).trans rfl; have hfz73_0 := blk_frozen BK370.out 0) | ((with_reducible refine gate_callee (f := 21) rfl ?_); refine goesL_ (some 58) rfl rfl Tryd.func21 (by kernel_rfl) rfl #[.agg #[.slice Ao71 t365.length co71], .agg #[.int .i64 a1, .int .i64 a3, .int .i64 0]] rfl (by (try simp only [List.map_toArray, List.map_cons, List.map_nil]); first | done | rfl | (simp only [List.length_drop, List.length_take]; rfl)) ?_; (with_reducible refine (pack_Apply.calls _ _ t365 a1 a3 0 t371 t374 t375 _ ?side1 ?side2 A18.out).mono ?_); (case side1 => refine (Kd.R_reads' (e := 48) (base := w.heap.size) (ok := fun k_ => True) (n := t365.length) (c := co71) ?_).2.2; exact (by (with_reducible repeat (first | apply Kd.R_alloc | apply Kd.R_drewN | apply Kd.R_drew)); exact (Kd.R_mono (Kd.R_far (p := ⟨gb370, 0, none⟩) (Kd.R_types HO367.out BK370.out (by decide)) (fun _ hk => hk.2) (.slice Ao71 t365.length co71)) (fun _ h_ => h_.1)))); (case side2 => exact (Kd.R_reads' HO367.out).2.1); rintro e w74 ⟨v372, rfl, ho0, hb⟩; refine ⟨_, rfl, ?_⟩; have n0_ := Aside0.mk (Kd.R_elder' (by (with_reducible repeat (first | apply Kd.R_alloc | apply Kd.R_drewN | apply Kd.R_drew)); exact (Kd.R_mono (Kd.R_far (p := ⟨gb370, 0, none⟩) (Kd.R_types HO367.out BK370.out (by decide)) (fun _ hk => hk.2) (.slice Ao71 t365.length co71)) (fun _ h_ => h_.1))) (Kd.R_base ho0) hb); have n1_ := Aside0.mk (Kd.R_lower (Kd.R_new' ho0 (Kd.R_lt (by (with_reducible repeat (first | apply Kd.R_alloc | apply Kd.R_drewN | apply Kd.R_drew)); exact (Kd.R_mono (Kd.R_far (p := ⟨gb370, 0, none⟩) (Kd.R_types HO367.out BK370.out (by decide)) (fun _ hk => hk.2) (.slice Ao71 t365.length co71)) (fun _ h_ => h_.1))))) (below_size (by repeat (first | (with_reducible first | exact HB.out | apply below_alloc | apply pw_below_drewN | apply below_drew1 | refine below_set ?_ GE363.out | refine below_set ?_ GE370.out) | exact HB.out)))); have n2_ := Aside0.mk (blk_below (g := gb363) (o := .cells #[.slice A0_0 l0_0.length c0_0] 24 (0, 0)) (by (with_reducible repeat (first | refine blk_drewN ?_ _ | refine blk_drew ?_ | refine blk_alloc ?_ _)); refine blk_far ?_ NB363_370.out _; (with_reducible repeat (first | refine blk_drewN ?_ _ | refine blk_drew ?_ | refine blk_alloc ?_ _)); exact BK363.out) hb); have n3_ := Aside0.mk (blk_below (g := gb370) (o := .cells #[.slice Ao71 t365.length co71] 24 (0, 0)) (by (with_reducible repeat (first | refine blk_drewN ?_ _ | refine blk_drew ?_ | refine blk_alloc ?_ _)); refine blk_put (cs := #[.slice none 0 0]) ?_ 0 _ rfl; (with_reducible repeat (first | refine blk_drewN ?_ _ | refine blk_drew ?_ | refine blk_alloc ?_ _)); exact BK370.out) hb); have n4_ := Aside0.mk (below_step (by repeat (first | (with_reducible first | exact HB.out | apply below_alloc | apply pw_below_drewN | apply below_drew1 | refine below_set ?_ GE363.out | refine below_set ?_ GE370.out) | exact HB.out)) hb); clear HO367; clear BK363; clear BK370; clear HB; have HO367 := n0_; have HO373 := n1_; have BK363 := n2_; have BK370 := n3_; have HB := n4_; clear n0_ n1_ n2_ n3_ n4_; (try clear hb); (try clear hb2); (try clear hk); (try clear hi); (try clear ho0)) | ((with_reducible refine gate_dst (N := 12) rfl ?_); refine box_event ?hg (N := 12) ?hd (cs := #[.slice none 0 0]) (t := 24) ?hr ?_; (case hd => rfl); (case hg => rfl); (case hr => first | (go_simp; done) | (go_simp; rfl)); intro gb376 hg w75 hbox hb; have n0_ := Aside0.mk (Kd.R_below (by (with_reducible repeat (first | apply Kd.R_alloc | apply Kd.R_drewN | apply Kd.R_drew)); exact HO367.out) hb); have n1_ := Aside0.mk (Kd.R_below (by (with_reducible repeat (first | apply Kd.R_alloc | apply Kd.R_drewN | apply Kd.R_drew)); exact HO373.out) hb); have n2_ := Aside0.mk (blk_below (g := gb363) (o := .cells #[.slice A0_0 l0_0.length c0_0] 24 (0, 0)) (by (with_reducible repeat (first | refine blk_drewN ?_ _ | refine blk_drew ?_ | refine blk_alloc ?_ _)); exact BK363.out) hb); have n3_ := Aside0.mk (blk_below (g := gb370) (o := .cells #[.slice Ao71 t365.length co71] 24 (0, 0)) (by (with_reducible repeat (first | refine blk_drewN ?_ _ | refine blk_drew ?_ | refine blk_alloc ?_ _)); exact BK370.out) hb); have n4_ := Aside0.mk (below_step (by repeat (first | (with_reducible first | exact HB.out | apply below_alloc | apply pw_below_drewN | apply below_drew1 | refine below_set ?_ GE363.out | refine below_set ?_ GE370.out) | exact HB.out)) hb); have n5_ := Aside0.mk (hbox); have n6_ := Aside0.mk ((by rw [hg]; exact (below_size (by repeat (first | (with_reducible first | exact HB.out | apply below_alloc | apply pw_below_drewN | apply below_drew1 | refine below_set ?_ GE363.out | refine below_set ?_ GE370.out) | exact HB.out))) : w.heap.size ≤ gb376)); have n7_ := Aside0.mk ((by rw [hg]; exact (below_size (by repeat (first | (with_reducible first | exact HB.out | apply below_alloc | apply pw_below_drewN | apply below_drew1 | refine below_set ?_ GE363.out | refine below_set ?_ GE370.out) | exact HB.out))) : w.heap.size ≤ gb376)); have n8_ := Aside0.mk ((by rw [hg]; exact Nat.ne_of_lt (blk_lt (g := gb363) (o := .cells #[.slice A0_0 l0_0.length c0_0] 24 (0, 0)) (by (with_reducible repeat (first | refine blk_drewN ?_ _ | refine blk_drew ?_ | refine blk_alloc ?_ _)); exact BK363.out)) : gb363 ≠ gb376)); have n9_ := Aside0.mk ((by rw [hg]; exact Nat.ne_of_gt (blk_lt (g := gb363) (o := .cells #[.slice A0_0 l0_0.length c0_0] 24 (0, 0)) (by (with_reducible repeat (first | refine blk_drewN ?_ _ | refine blk_drew ?_ | refine blk_alloc ?_ _)); exact BK363.out)) : gb376 ≠ gb363)); have n10_ := Aside0.mk ((by rw [hg]; exact Nat.ne_of_lt (blk_lt (g := gb370) (o := .cells #[.slice Ao71 t365.length co71] 24 (0, 0)) (by (with_reducible repeat (first | refine blk_drewN ?_ _ | refine blk_drew ?_ | refine blk_alloc ?_ _)); exact BK370.out)) : gb370 ≠ gb376)); have n11_ := Aside0.mk ((by rw [hg]; exact Nat.ne_of_gt (blk_lt (g := gb370) (o := .cells #[.slice Ao71 t365.length co71] 24 (0, 0)) (by (with_reducible repeat (first | refine blk_drewN ?_ _ | refine blk_drew ?_ | refine blk_alloc ?_ _)); exact BK370.out)) : gb376 ≠ gb370)); clear HO367; clear HO373; clear BK363; clear BK370; clear HB; have HO367 := n0_; have HO373 := n1_; have BK363 := n2_; have BK370 := n3_; have HB := n4_; have BK376 := n5_; have GW376 := n6_; have GE376 := n7_; have NB363_376 := n8_; have NB376_363 := n9_; have NB370_376 := n10_; have NB376_370 := n11_; clear n0_ n1_ n2_ n3_ n4_ n5_ n6_ n7_ n8_ n9_ n10_ n11_; clear hb hbox hg; obtain ⟨Ao76, co76, eo76⟩ := Kd.R_slice HO373.out; subst eo76; have hnb77 := NB376_363.out; have hnc77 := NB363_376.out; have hnb78 := NB376_370.out; have hnc78 := NB370_376.out; have hcz79_0 : w75.cell? ⟨gb376, 0, none⟩ = some (.slice none 0 0) := (blk_cell BK376.out 0).trans rfl; have hfz79_0 := blk_frozen BK376.out 0; have hcz80_0 : w75.cell? ⟨gb363, 0, none⟩ = some (.slice A0_0 l0_0.length c0_0) := (blk_cell BK363.out 0).trans rfl; have hfz80_0 := blk_frozen BK363.out 0) | ((with_reducible refine gate_callee (f := 21) rfl ?_); refine goesL_ (some 69) rfl rfl Tryd.func21 (by kernel_rfl) rfl #[.agg #[.slice A0_0 l0_0.length c0_0], .agg #[.int .i64 a1, .int .i64 (wrap64 (a2 + a3)), .int .i64 0]] rfl (by (try simp only [List.map_toArray, List.map_cons, List.map_nil]); first | done | rfl | (simp only [List.length_drop, List.length_take]; rfl)) ?_; (with_reducible refine (pack_Apply.calls _ _ l0_0 a1 (wrap64 (a2 + a3)) 0 t377 t380 t381 _ ?side1 ?side2 A19.out).mono ?_); (case side1 => exact Kd.C_below HR0_0.out (by repeat (first | (with_reducible first | exact HB.out | apply below_alloc | apply pw_below_drewN | apply below_drew1 | refine below_set ?_ GE363.out | refine below_set ?_ GE370.out | refine below_set ?_ GE376.out) | exact HB.out))); (case side2 => exact HC0_0.out); rintro e w81 ⟨v378, rfl, ho0, hb⟩; refine ⟨_, rfl, ?_⟩; have n0_ := Aside0.mk (Kd.R_elder' (by (with_reducible repeat (first | apply Kd.R_alloc | apply Kd.R_drewN | apply Kd.R_drew)); exact (Kd.R_mono (Kd.R_far (p := ⟨gb376, 0, none⟩) (Kd.R_types HO367.out BK376.out (by decide)) (fun _ hk => hk.2) (.slice Ao76 t371.length co76)) (fun _ h_ => h_.1))) (Kd.R_base ho0) hb); have n1_ := Aside0.mk (Kd.R_elder' (by (with_reducible repeat (first | apply Kd.R_alloc | apply Kd.R_drewN | apply Kd.R_drew)); exact (Kd.R_mono (Kd.R_far (p := ⟨gb376, 0, none⟩) (Kd.R_types HO373.out BK376.out (by decide)) (fun _ hk => hk.2) (.slice Ao76 t371.length co76)) (fun _ h_ => h_.1))) (Kd.R_base ho0) hb); have n2_ := Aside0.mk (Kd.R_lower (Kd.R_new' (Kd.R_new' ho0 (Kd.R_lt (by (with_reducible repeat (first | apply Kd.R_alloc | apply Kd.R_drewN | apply Kd.R_drew)); exact (Kd.R_mono (Kd.R_far (p := ⟨gb376, 0, none⟩) (Kd.R_types HO367.out BK376.out (by decide)) (fun _ hk => hk.2) (.slice Ao76 t371.length co76)) (fun _ h_ => h_.1))))) (Kd.R_lt (by (with_reducible repeat (first | apply Kd.R_alloc | apply Kd.R_drewN | apply Kd.R_drew)); exact (Kd.R_mono (Kd.R_far (p := ⟨gb376, 0, none⟩) (Kd.R_types HO373.out BK376.out (by decide)) (fun _ hk => hk.2) (.slice Ao76 t371.length co76)) (fun _ h_ => h_.1))))) (below_size (by repeat (first | (with_reducible first | exact HB.out | apply below_alloc | apply pw_below_drewN | apply below_drew1 | refine below_set ?_ GE363.out | refine below_set ?_ GE370.out | refine below_set ?_ GE376.out) | exact HB.out)))); have n3_ := Aside0.mk (blk_below (g := gb363) (o := .cells #[.slice A0_0 l0_0.length c0_0] 24 (0, 0)) (by (with_reducible repeat (first | refine blk_drewN ?_ _ | refine blk_drew ?_ | refine blk_alloc ?_ _)); refine blk_far ?_ NB363_376.out _; (with_reducible repeat (first | refine blk_drewN ?_ _ | refine blk_drew ?_ | refine blk_alloc ?_ _)); exact BK363.out) hb); have n4_ := Aside0.mk (blk_below (g := gb370) (o := .cells #[.slice Ao71 t365.length co71] 24 (0, 0)) (by (with_reducible repeat (first | refine blk_drewN ?_ _ | refine blk_drew ?_ | refine blk_alloc ?_ _)); refine blk_far ?_ NB370_376.out _; (with_reducible repeat (first | refine blk_drewN ?_ _ | refine blk_drew ?_ | refine blk_alloc ?_ _)); exact BK370.out) hb); have n5_ := Aside0.mk (blk_below (g := gb376) (o := .cells #[.slice Ao76 t371.length co76] 24 (0, 0)) (by (with_reducible repeat (first | refine blk_drewN ?_ _ | refine blk_drew ?_ | refine blk_alloc ?_ _)); refine blk_put (cs := #[.slice none 0 0]) ?_ 0 _ rfl; (with_reducible repeat (first | refine blk_drewN ?_ _ | refine blk_drew ?_ | refine blk_alloc ?_ _)); exact BK376.out) hb); have n6_ := Aside0.mk (below_step (by repeat (first | (with_reducible first | exact HB.out | apply below_alloc | apply pw_below_drewN | apply below_drew1 | refine below_set ?_ GE363.out | refine below_set ?_ GE370.out | refine below_set ?_ GE376.out) | exact HB.out)) hb); clear HO367; clear HO373; clear BK363; clear BK370; clear BK376; clear HB; have HO367 := n0_; have HO373 := n1_; have HO379 := n2_; have BK363 := n3_; have BK370 := n4_; have BK376 := n5_; have HB := n6_; clear n0_ n1_ n2_ n3_ n4_ n5_ n6_; (try clear hb); (try clear hb2); (try clear hk); (try clear hi); (try clear ho0)) | ((with_reducible refine gate_dst (N := 15) rfl ?_); refine box_event ?hg (N := 15) ?hd (cs := #[.slice none 0 0]) (t := 24) ?hr ?_; (case hd => rfl); (case hg => rfl); (case hr => first | (go_simp; done) | (go_simp; rfl)); intro gb382 hg w82 hbox hb; have n0_ := Aside0.mk (Kd.R_below (by (with_reducible repeat (first | apply Kd.R_alloc | apply Kd.R_drewN | apply Kd.R_drew)); exact HO367.out) hb); have n1_ := Aside0.mk (Kd.R_below (by (with_reducible repeat (first | apply Kd.R_alloc | apply Kd.R_drewN | apply Kd.R_drew)); exact HO373.out) hb); have n2_ := Aside0.mk (Kd.R_below (by (with_reducible repeat (first | apply Kd.R_alloc | apply Kd.R_drewN | apply Kd.R_drew)); exact HO379.out) hb); have n3_ := Aside0.mk (blk_below (g := gb363) (o := .cells #[.slice A0_0 l0_0.length c0_0] 24 (0, 0)) (by (with_reducible repeat (first | refine blk_drewN ?_ _ | refine blk_drew ?_ | refine blk_alloc ?_ _)); exact BK363.out) hb); have n4_ := Aside0.mk (blk_below (g := gb370) (o := .cells #[.slice Ao71 t365.length co71] 24 (0, 0)) (by (with_reducible repeat (first | refine blk_drewN ?_ _ | refine blk_drew ?_ | refine blk_alloc ?_ _)); exact BK370.out) hb); have n5_ := Aside0.mk (blk_below (g := gb376) (o := .cells #[.slice Ao76 t371.length co76] 24 (0, 0)) (by (with_reducible repeat (first | refine blk_drewN ?_ _ | refine blk_drew ?_ | refine blk_alloc ?_ _)); exact BK376.out) hb); have n6_ := Aside0.mk (below_step (by repeat (first | (with_reducible first | exact HB.out | apply below_alloc | apply pw_below_drewN | apply below_drew1 | refine below_set ?_ GE363.out | refine below_set ?_ GE370.out | refine below_set ?_ GE376.out) | exact HB.out)) hb); have n7_ := Aside0.mk (hbox); have n8_ := Aside0.mk ((by rw [hg]; exact (below_size (by repeat (first | (with_reducible first | exact HB.out | apply below_alloc | apply pw_below_drewN | apply below_drew1 | refine below_set ?_ GE363.out | refine below_set ?_ GE370.out | refine below_set ?_ GE376.out) | exact HB.out))) : w.heap.size ≤ gb382)); have n9_ := Aside0.mk ((by rw [hg]; exact (below_size (by repeat (first | (with_reducible first | exact HB.out | apply below_alloc | apply pw_below_drewN | apply below_drew1 | refine below_set ?_ GE363.out | refine below_set ?_ GE370.out | refine below_set ?_ GE376.out) | exact HB.out))) : w.heap.size ≤ gb382)); have n10_ := Aside0.mk ((by rw [hg]; exact Nat.ne_of_lt (blk_lt (g := gb363) (o := .cells #[.slice A0_0 l0_0.length c0_0] 24 (0, 0)) (by (with_reducible repeat (first | refine blk_drewN ?_ _ | refine blk_drew ?_ | refine blk_alloc ?_ _)); exact BK363.out)) : gb363 ≠ gb382)); have n11_ := Aside0.mk ((by rw [hg]; exact Nat.ne_of_gt (blk_lt (g := gb363) (o := .cells #[.slice A0_0 l0_0.length c0_0] 24 (0, 0)) (by (with_reducible repeat (first | refine blk_drewN ?_ _ | refine blk_drew ?_ | refine blk_alloc ?_ _)); exact BK363.out)) : gb382 ≠ gb363)); have n12_ := Aside0.mk ((by rw [hg]; exact Nat.ne_of_lt (blk_lt (g := gb370) (o := .cells #[.slice Ao71 t365.length co71] 24 (0, 0)) (by (with_reducible repeat (first | refine blk_drewN ?_ _ | refine blk_drew ?_ | refine blk_alloc ?_ _)); exact BK370.out)) : gb370 ≠ gb382)); have n13_ := Aside0.mk ((by rw [hg]; exact Nat.ne_of_gt (blk_lt (g := gb370) (o := .cells #[.slice Ao71 t365.length co71] 24 (0, 0)) (by (with_reducible repeat (first | refine blk_drewN ?_ _ | refine blk_drew ?_ | refine blk_alloc ?_ _)); exact BK370.out)) : gb382 ≠ gb370)); have n14_ := Aside0.mk ((by rw [hg]; exact Nat.ne_of_lt (blk_lt (g := gb376) (o := .cells #[.slice Ao76 t371.length co76] 24 (0, 0)) (by (with_reducible repeat (first | refine blk_drewN ?_ _ | refine blk_drew ?_ | refine blk_alloc ?_ _)); exact BK376.out)) : gb376 ≠ gb382)); have n15_ := Aside0.mk ((by rw [hg]; exact Nat.ne_of_gt (blk_lt (g := gb376) (o := .cells #[.slice Ao76 t371.length co76] 24 (0, 0)) (by (with_reducible repeat (first | refine blk_drewN ?_ _ | refine blk_drew ?_ | refine blk_alloc ?_ _)); exact BK376.out)) : gb382 ≠ gb376)); clear HO367; clear HO373; clear HO379; clear BK363; clear BK370; clear BK376; clear HB; have HO367 := n0_; have HO373 := n1_; have HO379 := n2_; have BK363 := n3_; have BK370 := n4_; have BK376 := n5_; have HB := n6_; have BK382 := n7_; have GW382 := n8_; have GE382 := n9_; have NB363_382 := n10_; have NB382_363 := n11_; have NB370_382 := n12_; have NB382_370 := n13_; have NB376_382 := n14_; have NB382_376 := n15_; clear n0_ n1_ n2_ n3_ n4_ n5_ n6_ n7_ n8_ n9_ n10_ n11_ n12_ n13_ n14_ n15_; clear hb hbox hg; obtain ⟨Ao83, co83, eo83⟩ := Kd.R_slice HO379.out; subst eo83; have hnb84 := NB382_363.out; have hnc84 := NB363_382.out; have hnb85 := NB382_370.out; have hnc85 := NB370_382.out; have hnb86 := NB382_376.out; have hnc86 := NB376_382.out; have hcz87_0 : w82.cell? ⟨gb382, 0, none⟩ = some (.slice none 0 0) := (blk_cell BK382.out 0).trans rfl; have hfz87_0 := blk_frozen BK382.out 0))
                go_ret
                exact ⟨by first | rfl | (simp [errW_none, errW_some] <;> rfl) | (simp [*, errW_none, errW_some] <;> rfl), by repeat (first | (with_reducible first | exact HB.out | apply below_alloc | apply pw_below_drewN | apply below_drew1 | refine below_set ?_ GE363.out | refine below_set ?_ GE370.out | refine below_set ?_ GE376.out | refine below_set ?_ GE382.out) | exact HB.out)⟩
            · rw [if_neg c20] at H
              have c20b0 : (t375 == 0) = false := beq_eq_false_iff_ne.mpr c20
              have c20b1 : (t375 != 0) = true := bne_iff_ne.mpr c20
              obtain rfl := Option.some.inj H
              have hcz88_0 : wc.cell? ⟨gb363, 0, none⟩ = some (.slice A0_0 l0_0.length c0_0) := (blk_cell BK363.out 0).trans rfl
              have hfz88_0 := blk_frozen BK363.out 0
              go_wp2_with (first | ((with_reducible refine gate_callee (f := 21) rfl ?_); refine goesL_ (some 47) rfl rfl Tryd.func21 (by kernel_rfl) rfl #[.agg #[.slice A0_0 l0_0.length c0_0], .agg #[.int .i64 a1, .int .i64 a2, .int .i64 0]] rfl (by (try simp only [List.map_toArray, List.map_cons, List.map_nil]); first | done | rfl | (simp only [List.length_drop, List.length_take]; rfl)) ?_; (with_reducible refine (pack_Apply.calls _ _ l0_0 a1 a2 0 t365 t368 t369 _ ?side1 ?side2 A16.out).mono ?_); (case side1 => repeat (first | exact (Kd.C_below HR0_0.out HB.out) | (with_reducible refine Kd.C_alloc ?_ _) | (with_reducible refine Kd.C_drewN ?_ _) | (with_reducible refine Kd.C_drew ?_))); (case side2 => exact HC0_0.out); rintro e w89 ⟨v366, rfl, ho0, hb⟩; refine ⟨_, rfl, ?_⟩; have n0_ := Aside0.mk (Kd.R_lower ho0 (below_size (by repeat (first | (with_reducible first | exact HB.out | apply below_alloc | apply pw_below_drewN | apply below_drew1 | refine below_set ?_ GE363.out) | exact HB.out)))); have n1_ := Aside0.mk (blk_below (g := gb363) (o := .cells #[.slice A0_0 l0_0.length c0_0] 24 (0, 0)) (by (with_reducible repeat (first | refine blk_drewN ?_ _ | refine blk_drew ?_ | refine blk_alloc ?_ _)); exact BK363.out) hb); have n2_ := Aside0.mk (below_step (by repeat (first | (with_reducible first | exact HB.out | apply below_alloc | apply pw_below_drewN | apply below_drew1 | refine below_set ?_ GE363.out) | exact HB.out)) hb); clear BK363; clear HB; have HO367 := n0_; have BK363 := n1_; have HB := n2_; clear n0_ n1_ n2_; (try clear hb); (try clear hb2); (try clear hk); (try clear hi); (try clear ho0)) | ((with_reducible refine gate_dst (N := 9) rfl ?_); refine box_event ?hg (N := 9) ?hd (cs := #[.slice none 0 0]) (t := 24) ?hr ?_; (case hd => rfl); (case hg => rfl); (case hr => first | (go_simp; done) | (go_simp; rfl)); intro gb370 hg w90 hbox hb; have n0_ := Aside0.mk (Kd.R_below (by (with_reducible repeat (first | apply Kd.R_alloc | apply Kd.R_drewN | apply Kd.R_drew)); exact HO367.out) hb); have n1_ := Aside0.mk (blk_below (g := gb363) (o := .cells #[.slice A0_0 l0_0.length c0_0] 24 (0, 0)) (by (with_reducible repeat (first | refine blk_drewN ?_ _ | refine blk_drew ?_ | refine blk_alloc ?_ _)); exact BK363.out) hb); have n2_ := Aside0.mk (below_step (by repeat (first | (with_reducible first | exact HB.out | apply below_alloc | apply pw_below_drewN | apply below_drew1 | refine below_set ?_ GE363.out) | exact HB.out)) hb); have n3_ := Aside0.mk (hbox); have n4_ := Aside0.mk ((by rw [hg]; exact (below_size (by repeat (first | (with_reducible first | exact HB.out | apply below_alloc | apply pw_below_drewN | apply below_drew1 | refine below_set ?_ GE363.out) | exact HB.out))) : w.heap.size ≤ gb370)); have n5_ := Aside0.mk ((by rw [hg]; exact (below_size (by repeat (first | (with_reducible first | exact HB.out | apply below_alloc | apply pw_below_drewN | apply below_drew1 | refine below_set ?_ GE363.out) | exact HB.out))) : w.heap.size ≤ gb370)); have n6_ := Aside0.mk ((by rw [hg]; exact Nat.ne_of_lt (blk_lt (g := gb363) (o := .cells #[.slice A0_0 l0_0.length c0_0] 24 (0, 0)) (by (with_reducible repeat (first | refine blk_drewN ?_ _ | refine blk_drew ?_ | refine blk_alloc ?_ _)); exact BK363.out)) : gb363 ≠ gb370)); have n7_ := Aside0.mk ((by rw [hg]; exact Nat.ne_of_gt (blk_lt (g := gb363) (o := .cells #[.slice A0_0 l0_0.length c0_0] 24 (0, 0)) (by (with_reducible repeat (first | refine blk_drewN ?_ _ | refine blk_drew ?_ | refine blk_alloc ?_ _)); exact BK363.out)) : gb370 ≠ gb363)); clear HO367; clear BK363; clear HB; have HO367 := n0_; have BK363 := n1_; have HB := n2_; have BK370 := n3_; have GW370 := n4_; have GE370 := n5_; have NB363_370 := n6_; have NB370_363 := n7_; clear n0_ n1_ n2_ n3_ n4_ n5_ n6_ n7_; clear hb hbox hg; obtain ⟨Ao91, co91, eo91⟩ := Kd.R_slice HO367.out; subst eo91; have hnb92 := NB370_363.out; have hnc92 := NB363_370.out; have hcz93_0 : w90.cell? ⟨gb370, 0, none⟩ = some (.slice none 0 0) := (blk_cell BK370.out 0).trans rfl; have hfz93_0 := blk_frozen BK370.out 0) | ((with_reducible refine gate_callee (f := 21) rfl ?_); refine goesL_ (some 58) rfl rfl Tryd.func21 (by kernel_rfl) rfl #[.agg #[.slice Ao91 t365.length co91], .agg #[.int .i64 a1, .int .i64 a3, .int .i64 0]] rfl (by (try simp only [List.map_toArray, List.map_cons, List.map_nil]); first | done | rfl | (simp only [List.length_drop, List.length_take]; rfl)) ?_; (with_reducible refine (pack_Apply.calls _ _ t365 a1 a3 0 t371 t374 t375 _ ?side1 ?side2 A18.out).mono ?_); (case side1 => refine (Kd.R_reads' (e := 48) (base := w.heap.size) (ok := fun k_ => True) (n := t365.length) (c := co91) ?_).2.2; exact (by (with_reducible repeat (first | apply Kd.R_alloc | apply Kd.R_drewN | apply Kd.R_drew)); exact (Kd.R_mono (Kd.R_far (p := ⟨gb370, 0, none⟩) (Kd.R_types HO367.out BK370.out (by decide)) (fun _ hk => hk.2) (.slice Ao91 t365.length co91)) (fun _ h_ => h_.1)))); (case side2 => exact (Kd.R_reads' HO367.out).2.1); rintro e w94 ⟨v372, rfl, ho0, hb⟩; refine ⟨_, rfl, ?_⟩; have n0_ := Aside0.mk (Kd.R_elder' (by (with_reducible repeat (first | apply Kd.R_alloc | apply Kd.R_drewN | apply Kd.R_drew)); exact (Kd.R_mono (Kd.R_far (p := ⟨gb370, 0, none⟩) (Kd.R_types HO367.out BK370.out (by decide)) (fun _ hk => hk.2) (.slice Ao91 t365.length co91)) (fun _ h_ => h_.1))) (Kd.R_base ho0) hb); have n1_ := Aside0.mk (Kd.R_lower (Kd.R_new' ho0 (Kd.R_lt (by (with_reducible repeat (first | apply Kd.R_alloc | apply Kd.R_drewN | apply Kd.R_drew)); exact (Kd.R_mono (Kd.R_far (p := ⟨gb370, 0, none⟩) (Kd.R_types HO367.out BK370.out (by decide)) (fun _ hk => hk.2) (.slice Ao91 t365.length co91)) (fun _ h_ => h_.1))))) (below_size (by repeat (first | (with_reducible first | exact HB.out | apply below_alloc | apply pw_below_drewN | apply below_drew1 | refine below_set ?_ GE363.out | refine below_set ?_ GE370.out) | exact HB.out)))); have n2_ := Aside0.mk (blk_below (g := gb363) (o := .cells #[.slice A0_0 l0_0.length c0_0] 24 (0, 0)) (by (with_reducible repeat (first | refine blk_drewN ?_ _ | refine blk_drew ?_ | refine blk_alloc ?_ _)); refine blk_far ?_ NB363_370.out _; (with_reducible repeat (first | refine blk_drewN ?_ _ | refine blk_drew ?_ | refine blk_alloc ?_ _)); exact BK363.out) hb); have n3_ := Aside0.mk (blk_below (g := gb370) (o := .cells #[.slice Ao91 t365.length co91] 24 (0, 0)) (by (with_reducible repeat (first | refine blk_drewN ?_ _ | refine blk_drew ?_ | refine blk_alloc ?_ _)); refine blk_put (cs := #[.slice none 0 0]) ?_ 0 _ rfl; (with_reducible repeat (first | refine blk_drewN ?_ _ | refine blk_drew ?_ | refine blk_alloc ?_ _)); exact BK370.out) hb); have n4_ := Aside0.mk (below_step (by repeat (first | (with_reducible first | exact HB.out | apply below_alloc | apply pw_below_drewN | apply below_drew1 | refine below_set ?_ GE363.out | refine below_set ?_ GE370.out) | exact HB.out)) hb); clear HO367; clear BK363; clear BK370; clear HB; have HO367 := n0_; have HO373 := n1_; have BK363 := n2_; have BK370 := n3_; have HB := n4_; clear n0_ n1_ n2_ n3_ n4_; (try clear hb); (try clear hb2); (try clear hk); (try clear hi); (try clear ho0)) | ((with_reducible refine gate_dst (N := 12) rfl ?_); refine box_event ?hg (N := 12) ?hd (cs := #[.slice none 0 0]) (t := 24) ?hr ?_; (case hd => rfl); (case hg => rfl); (case hr => first | (go_simp; done) | (go_simp; rfl)); intro gb376 hg w95 hbox hb; have n0_ := Aside0.mk (Kd.R_below (by (with_reducible repeat (first | apply Kd.R_alloc | apply Kd.R_drewN | apply Kd.R_drew)); exact HO367.out) hb); have n1_ := Aside0.mk (Kd.R_below (by (with_reducible repeat (first | apply Kd.R_alloc | apply Kd.R_drewN | apply Kd.R_drew)); exact HO373.out) hb); have n2_ := Aside0.mk (blk_below (g := gb363) (o := .cells #[.slice A0_0 l0_0.length c0_0] 24 (0, 0)) (by (with_reducible repeat (first | refine blk_drewN ?_ _ | refine blk_drew ?_ | refine blk_alloc ?_ _)); exact BK363.out) hb); have n3_ := Aside0.mk (blk_below (g := gb370) (o := .cells #[.slice Ao91 t365.length co91] 24 (0, 0)) (by (with_reducible repeat (first | refine blk_drewN ?_ _ | refine blk_drew ?_ | refine blk_alloc ?_ _)); exact BK370.out) hb); have n4_ := Aside0.mk (below_step (by repeat (first | (with_reducible first | exact HB.out | apply below_alloc | apply pw_below_drewN | apply below_drew1 | refine below_set ?_ GE363.out | refine below_set ?_ GE370.out) | exact HB.out)) hb); have n5_ := Aside0.mk (hbox); have n6_ := Aside0.mk ((by rw [hg]; exact (below_size (by repeat (first | (with_reducible first | exact HB.out | apply below_alloc | apply pw_below_drewN | apply below_drew1 | refine below_set ?_ GE363.out | refine below_set ?_ GE370.out) | exact HB.out))) : w.heap.size ≤ gb376)); have n7_ := Aside0.mk ((by rw [hg]; exact (below_size (by repeat (first | (with_reducible first | exact HB.out | apply below_alloc | apply pw_below_drewN | apply below_drew1 | refine below_set ?_ GE363.out | refine below_set ?_ GE370.out) | exact HB.out))) : w.heap.size ≤ gb376)); have n8_ := Aside0.mk ((by rw [hg]; exact Nat.ne_of_lt (blk_lt (g := gb363) (o := .cells #[.slice A0_0 l0_0.length c0_0] 24 (0, 0)) (by (with_reducible repeat (first | refine blk_drewN ?_ _ | refine blk_drew ?_ | refine blk_alloc ?_ _)); exact BK363.out)) : gb363 ≠ gb376)); have n9_ := Aside0.mk ((by rw [hg]; exact Nat.ne_of_gt (blk_lt (g := gb363) (o := .cells #[.slice A0_0 l0_0.length c0_0] 24 (0, 0)) (by (with_reducible repeat (first | refine blk_drewN ?_ _ | refine blk_drew ?_ | refine blk_alloc ?_ _)); exact BK363.out)) : gb376 ≠ gb363)); have n10_ := Aside0.mk ((by rw [hg]; exact Nat.ne_of_lt (blk_lt (g := gb370) (o := .cells #[.slice Ao91 t365.length co91] 24 (0, 0)) (by (with_reducible repeat (first | refine blk_drewN ?_ _ | refine blk_drew ?_ | refine blk_alloc ?_ _)); exact BK370.out)) : gb370 ≠ gb376)); have n11_ := Aside0.mk ((by rw [hg]; exact Nat.ne_of_gt (blk_lt (g := gb370) (o := .cells #[.slice Ao91 t365.length co91] 24 (0, 0)) (by (with_reducible repeat (first | refine blk_drewN ?_ _ | refine blk_drew ?_ | refine blk_alloc ?_ _)); exact BK370.out)) : gb376 ≠ gb370)); clear HO367; clear HO373; clear BK363; clear BK370; clear HB; have HO367 := n0_; have HO373 := n1_; have BK363 := n2_; have BK370 := n3_; have HB := n4_; have BK376 := n5_; have GW376 := n6_; have GE376 := n7_; have NB363_376 := n8_; have NB376_363 := n9_; have NB370_376 := n10_; have NB376_370 := n11_; clear n0_ n1_ n2_ n3_ n4_ n5_ n6_ n7_ n8_ n9_ n10_ n11_; clear hb hbox hg; obtain ⟨Ao96, co96, eo96⟩ := Kd.R_slice HO373.out; subst eo96; have hnb97 := NB376_363.out; have hnc97 := NB363_376.out; have hnb98 := NB376_370.out; have hnc98 := NB370_376.out; have hcz99_0 : w95.cell? ⟨gb376, 0, none⟩ = some (.slice none 0 0) := (blk_cell BK376.out 0).trans rfl; have hfz99_0 := blk_frozen BK376.out 0; have hcz100_0 : w95.cell? ⟨gb363, 0, none⟩ = some (.slice A0_0 l0_0.length c0_0) := (blk_cell BK363.out 0).trans rfl; have hfz100_0 := blk_frozen BK363.out 0) | ((with_reducible refine gate_callee (f := 21) rfl ?_); refine goesL_ (some 69) rfl rfl Tryd.func21 (by kernel_rfl) rfl #[.agg #[.slice A0_0 l0_0.length c0_0], .agg #[.int .i64 a1, .int .i64 (wrap64 (a2 + a3)), .int .i64 0]] rfl (by (try simp only [List.map_toArray, List.map_cons, List.map_nil]); first | done | rfl | (simp only [List.length_drop, List.length_take]; rfl)) ?_; (with_reducible refine (pack_Apply.calls _ _ l0_0 a1 (wrap64 (a2 + a3)) 0 t377 t380 t381 _ ?side1 ?side2 A19.out).mono ?_); (case side1 => exact Kd.C_below HR0_0.out (by repeat (first | (with_reducible first | exact HB.out | apply below_alloc | apply pw_below_drewN | apply below_drew1 | refine below_set ?_ GE363.out | refine below_set ?_ GE370.out | refine below_set ?_ GE376.out) | exact HB.out))); (case side2 => exact HC0_0.out); rintro e w101 ⟨v378, rfl, ho0, hb⟩; refine ⟨_, rfl, ?_⟩; have n0_ := Aside0.mk (Kd.R_elder' (by (with_reducible repeat (first | apply Kd.R_alloc | apply Kd.R_drewN | apply Kd.R_drew)); exact (Kd.R_mono (Kd.R_far (p := ⟨gb376, 0, none⟩) (Kd.R_types HO367.out BK376.out (by decide)) (fun _ hk => hk.2) (.slice Ao96 t371.length co96)) (fun _ h_ => h_.1))) (Kd.R_base ho0) hb); have n1_ := Aside0.mk (Kd.R_elder' (by (with_reducible repeat (first | apply Kd.R_alloc | apply Kd.R_drewN | apply Kd.R_drew)); exact (Kd.R_mono (Kd.R_far (p := ⟨gb376, 0, none⟩) (Kd.R_types HO373.out BK376.out (by decide)) (fun _ hk => hk.2) (.slice Ao96 t371.length co96)) (fun _ h_ => h_.1))) (Kd.R_base ho0) hb); have n2_ := Aside0.mk (Kd.R_lower (Kd.R_new' (Kd.R_new' ho0 (Kd.R_lt (by (with_reducible repeat (first | apply Kd.R_alloc | apply Kd.R_drewN | apply Kd.R_drew)); exact (Kd.R_mono (Kd.R_far (p := ⟨gb376, 0, none⟩) (Kd.R_types HO367.out BK376.out (by decide)) (fun _ hk => hk.2) (.slice Ao96 t371.length co96)) (fun _ h_ => h_.1))))) (Kd.R_lt (by (with_reducible repeat (first | apply Kd.R_alloc | apply Kd.R_drewN | apply Kd.R_drew)); exact (Kd.R_mono (Kd.R_far (p := ⟨gb376, 0, none⟩) (Kd.R_types HO373.out BK376.out (by decide)) (fun _ hk => hk.2) (.slice Ao96 t371.length co96)) (fun _ h_ => h_.1))))) (below_size (by repeat (first | (with_reducible first | exact HB.out | apply below_alloc | apply pw_below_drewN | apply below_drew1 | refine below_set ?_ GE363.out | refine below_set ?_ GE370.out | refine below_set ?_ GE376.out) | exact HB.out)))); have n3_ := Aside0.mk (blk_below (g := gb363) (o := .cells #[.slice A0_0 l0_0.length c0_0] 24 (0, 0)) (by (with_reducible repeat (first | refine blk_drewN ?_ _ | refine blk_drew ?_ | refine blk_alloc ?_ _)); refine blk_far ?_ NB363_376.out _; (with_reducible repeat (first | refine blk_drewN ?_ _ | refine blk_drew ?_ | refine blk_alloc ?_ _)); exact BK363.out) hb); have n4_ := Aside0.mk (blk_below (g := gb370) (o := .cells #[.slice Ao91 t365.length co91] 24 (0, 0)) (by (with_reducible repeat (first | refine blk_drewN ?_ _ | refine blk_drew ?_ | refine blk_alloc ?_ _)); refine blk_far ?_ NB370_376.out _; (with_reducible repeat (first | refine blk_drewN ?_ _ | refine blk_drew ?_ | refine blk_alloc ?_ _)); exact BK370.out) hb); have n5_ := Aside0.mk (blk_below (g := gb376) (o := .cells #[.slice Ao96 t371.length co96] 24 (0, 0)) (by (with_reducible repeat (first | refine blk_drewN ?_ _ | refine blk_drew ?_ | refine blk_alloc ?_ _)); refine blk_put (cs := #[.slice none 0 0]) ?_ 0 _ rfl; (with_reducible repeat (first | refine blk_drewN ?_ _ | refine blk_drew ?_ | refine blk_alloc ?_ _)); exact BK376.out) hb); have n6_ := Aside0.mk (below_step (by repeat (first | (with_reducible first | exact HB.out | apply below_alloc | apply pw_below_drewN | apply below_drew1 | refine below_set ?_ GE363.out | refine below_set ?_ GE370.out | refine below_set ?_ GE376.out) | exact HB.out)) hb); clear HO367; clear HO373; clear BK363; clear BK370; clear BK376; clear HB; have HO367 := n0_; have HO373 := n1_; have HO379 := n2_; have BK363 := n3_; have BK370 := n4_; have BK376 := n5_; have HB := n6_; clear n0_ n1_ n2_ n3_ n4_ n5_ n6_; (try clear hb); (try clear hb2); (try clear hk); (try clear hi); (try clear ho0)) | ((with_reducible refine gate_dst (N := 15) rfl ?_); refine box_event ?hg (N := 15) ?hd (cs := #[.slice none 0 0]) (t := 24) ?hr ?_; (case hd => rfl); (case hg => rfl); (case hr => first | (go_simp; done) | (go_simp; rfl)); intro gb382 hg w102 hbox hb; have n0_ := Aside0.mk (Kd.R_below (by (with_reducible repeat (first | apply Kd.R_alloc | apply Kd.R_drewN | apply Kd.R_drew)); exact HO367.out) hb); have n1_ := Aside0.mk (Kd.R_below (by (with_reducible repeat (first | apply Kd.R_alloc | apply Kd.R_drewN | apply Kd.R_drew)); exact HO373.out) hb); have n2_ := Aside0.mk (Kd.R_below (by (with_reducible repeat (first | apply Kd.R_alloc | apply Kd.R_drewN | apply Kd.R_drew)); exact HO379.out) hb); have n3_ := Aside0.mk (blk_below (g := gb363) (o := .cells #[.slice A0_0 l0_0.length c0_0] 24 (0, 0)) (by (with_reducible repeat (first | refine blk_drewN ?_ _ | refine blk_drew ?_ | refine blk_alloc ?_ _)); exact BK363.out) hb); have n4_ := Aside0.mk (blk_below (g := gb370) (o := .cells #[.slice Ao91 t365.length co91] 24 (0, 0)) (by (with_reducible repeat (first | refine blk_drewN ?_ _ | refine blk_drew ?_ | refine blk_alloc ?_ _)); exact BK370.out) hb); have n5_ := Aside0.mk (blk_below (g := gb376) (o := .cells #[.slice Ao96 t371.length co96] 24 (0, 0)) (by (with_reducible repeat (first | refine blk_drewN ?_ _ | refine blk_drew ?_ | refine blk_alloc ?_ _)); exact BK376.out) hb); have n6_ := Aside0.mk (below_step (by repeat (first | (with_reducible first | exact HB.out | apply below_alloc | apply pw_below_drewN | apply below_drew1 | refine below_set ?_ GE363.out | refine below_set ?_ GE370.out | refine below_set ?_ GE376.out) | exact HB.out)) hb); have n7_ := Aside0.mk (hbox); have n8_ := Aside0.mk ((by rw [hg]; exact (below_size (by repeat (first | (with_reducible first | exact HB.out | apply below_alloc | apply pw_below_drewN | apply below_drew1 | refine below_set ?_ GE363.out | refine below_set ?_ GE370.out | refine below_set ?_ GE376.out) | exact HB.out))) : w.heap.size ≤ gb382)); have n9_ := Aside0.mk ((by rw [hg]; exact (below_size (by repeat (first | (with_reducible first | exact HB.out | apply below_alloc | apply pw_below_drewN | apply below_drew1 | refine below_set ?_ GE363.out | refine below_set ?_ GE370.out | refine below_set ?_ GE376.out) | exact HB.out))) : w.heap.size ≤ gb382)); have n10_ := Aside0.mk ((by rw [hg]; exact Nat.ne_of_lt (blk_lt (g := gb363) (o := .cells #[.slice A0_0 l0_0.length c0_0] 24 (0, 0)) (by (with_reducible repeat (first | refine blk_drewN ?_ _ | refine blk_drew ?_ | refine blk_alloc ?_ _)); exact BK363.out)) : gb363 ≠ gb382)); have n11_ := Aside0.mk ((by rw [hg]; exact Nat.ne_of_gt (blk_lt (g := gb363) (o := .cells #[.slice A0_0 l0_0.length c0_0] 24 (0, 0)) (by (with_reducible repeat (first | refine blk_drewN ?_ _ | refine blk_drew ?_ | refine blk_alloc ?_ _)); exact BK363.out)) : gb382 ≠ gb363)); have n12_ := Aside0.mk ((by rw [hg]; exact Nat.ne_of_lt (blk_lt (g := gb370) (o := .cells #[.slice Ao91 t365.length co91] 24 (0, 0)) (by (with_reducible repeat (first | refine blk_drewN ?_ _ | refine blk_drew ?_ | refine blk_alloc ?_ _)); exact BK370.out)) : gb370 ≠ gb382)); have n13_ := Aside0.mk ((by rw [hg]; exact Nat.ne_of_gt (blk_lt (g := gb370) (o := .cells #[.slice Ao91 t365.length co91] 24 (0, 0)) (by (with_reducible repeat (first | refine blk_drewN ?_ _ | refine blk_drew ?_ | refine blk_alloc ?_ _)); exact BK370.out)) : gb382 ≠ gb370)); have n14_ := Aside0.mk ((by rw [hg]; exact Nat.ne_of_lt (blk_lt (g := gb376) (o := .cells #[.slice Ao96 t371.length co96] 24 (0, 0)) (by (with_reducible repeat (first | refine blk_drewN ?_ _ | refine blk_drew ?_ | refine blk_alloc ?_ _)); exact BK376.out)) : gb376 ≠ gb382)); have n15_ := Aside0.mk ((by rw [hg]; exact Nat.ne_of_gt (blk_lt (g := gb376) (o := .cells #[.slice Ao96 t371.length co96] 24 (0, 0)) (by (with_reducible repeat (first | refine blk_drewN ?_ _ | refine blk_drew ?_ | refine blk_alloc ?_ _)); exact BK376.out)) : gb382 ≠ gb376)); clear HO367; clear HO373; clear HO379; clear BK363; clear BK370; clear BK376; clear HB; have HO367 := n0_; have HO373 := n1_; have HO379 := n2_; have BK363 := n3_; have BK370 := n4_; have BK376 := n5_; have HB := n6_; have BK382 := n7_; have GW382 := n8_; have GE382 := n9_; have NB363_382 := n10_; have NB382_363 := n11_; have NB370_382 := n12_; have NB382_370 := n13_; have NB376_382 := n14_; have NB382_376 := n15_; clear n0_ n1_ n2_ n3_ n4_ n5_ n6_ n7_ n8_ n9_ n10_ n11_ n12_ n13_ n14_ n15_; clear hb hbox hg; obtain ⟨Ao103, co103, eo103⟩ := Kd.R_slice HO379.out; subst eo103; have hnb104 := NB382_363.out; have hnc104 := NB363_382.out; have hnb105 := NB382_370.out; have hnc105 := NB370_382.out; have hnb106 := NB382_376.out; have hnc106 := NB376_382.out; have hcz107_0 : w102.cell? ⟨gb382, 0, none⟩ = some (.slice none 0 0) := (blk_cell BK382.out 0).trans rfl; have hfz107_0 := blk_frozen BK382.out 0))
              go_ret
              exact ⟨by first | rfl | (simp [errW_none, errW_some] <;> rfl) | (simp [*, errW_none, errW_some] <;> rfl), by repeat (first | (with_reducible first | exact HB.out | apply below_alloc | apply pw_below_drewN | apply below_drew1 | refine below_set ?_ GE363.out | refine below_set ?_ GE370.out | refine below_set ?_ GE376.out | refine below_set ?_ GE382.out) | exact HB.out)⟩
          · rw [if_neg c17] at H
            have c17b0 : (t369 == 0) = false := beq_eq_false_iff_ne.mpr c17
            have c17b1 : (t369 != 0) = true := bne_iff_ne.mpr c17
            obtain rfl := Option.some.inj H
            have hcz108_0 : wc.cell? ⟨gb363, 0, none⟩ = some (.slice A0_0 l0_0.length c0_0) := (blk_cell BK363.out 0).trans rfl
            have hfz108_0 := blk_frozen BK363.out 0
            go_wp2_with (first | ((with_reducible refine gate_callee (f := 21) rfl ?_); refine goesL_ (some 47) rfl rfl Tryd.func21 (by kernel_rfl) rfl #[.agg #[.slice A0_0 l0_0.length c0_0], .agg #[.int .i64 a1, .int .i64 a2, .int .i64 0]] rfl (by (try simp only [List.map_toArray, List.map_cons, List.map_nil]); first | done | rfl | (simp only [List.length_drop, List.length_take]; rfl)) ?_; (with_reducible refine (pack_Apply.calls _ _ l0_0 a1 a2 0 t365 t368 t369 _ ?side1 ?side2 A16.out).mono ?_); (case side1 => repeat (first | exact (Kd.C_below HR0_0.out HB.out) | (with_reducible refine Kd.C_alloc ?_ _) | (with_reducible refine Kd.C_drewN ?_ _) | (with_reducible refine Kd.C_drew ?_))); (case side2 => exact HC0_0.out); rintro e w109 ⟨v366, rfl, ho0, hb⟩; refine ⟨_, rfl, ?_⟩; have n0_ := Aside0.mk (Kd.R_lower ho0 (below_size (by repeat (first | (with_reducible first | exact HB.out | apply below_alloc | apply pw_below_drewN | apply below_drew1 | refine below_set ?_ GE363.out) | exact HB.out)))); have n1_ := Aside0.mk (blk_below (g := gb363) (o := .cells #[.slice A0_0 l0_0.length c0_0] 24 (0, 0)) (by (with_reducible repeat (first | refine blk_drewN ?_ _ | refine blk_drew ?_ | refine blk_alloc ?_ _)); exact BK363.out) hb); have n2_ := Aside0.mk (below_step (by repeat (first | (with_reducible first | exact HB.out | apply below_alloc | apply pw_below_drewN | apply below_drew1 | refine below_set ?_ GE363.out) | exact HB.out)) hb); clear BK363; clear HB; have HO367 := n0_; have BK363 := n1_; have HB := n2_; clear n0_ n1_ n2_; (try clear hb); (try clear hb2); (try clear hk); (try clear hi); (try clear ho0)) | ((with_reducible refine gate_dst (N := 9) rfl ?_); refine box_event ?hg (N := 9) ?hd (cs := #[.slice none 0 0]) (t := 24) ?hr ?_; (case hd => rfl); (case hg => rfl); (case hr => first | (go_simp; done) | (go_simp; rfl)); intro gb370 hg w110 hbox hb; have n0_ := Aside0.mk (Kd.R_below (by (with_reducible repeat (first | apply Kd.R_alloc | apply Kd.R_drewN | apply Kd.R_drew)); exact HO367.out) hb); have n1_ := Aside0.mk (blk_below (g := gb363) (o := .cells #[.slice A0_0 l0_0.length c0_0] 24 (0, 0)) (by (with_reducible repeat (first | refine blk_drewN ?_ _ | refine blk_drew ?_ | refine blk_alloc ?_ _)); exact BK363.out) hb); have n2_ := Aside0.mk (below_step (by repeat (first | (with_reducible first | exact HB.out | apply below_alloc | apply pw_below_drewN | apply below_drew1 | refine below_set ?_ GE363.out) | exact HB.out)) hb); have n3_ := Aside0.mk (hbox); have n4_ := Aside0.mk ((by rw [hg]; exact (below_size (by repeat (first | (with_reducible first | exact HB.out | apply below_alloc | apply pw_below_drewN | apply below_drew1 | refine below_set ?_ GE363.out) | exact HB.out))) : w.heap.size ≤ gb370)); have n5_ := Aside0.mk ((by rw [hg]; exact (below_size (by repeat (first | (with_reducible first | exact HB.out | apply below_alloc | apply pw_below_drewN | apply below_drew1 | refine below_set ?_ GE363.out) | exact HB.out))) : w.heap.size ≤ gb370)); have n6_ := Aside0.mk ((by rw [hg]; exact Nat.ne_of_lt (blk_lt (g := gb363) (o := .cells #[.slice A0_0 l0_0.length c0_0] 24 (0, 0)) (by (with_reducible repeat (first | refine blk_drewN ?_ _ | refine blk_drew ?_ | refine blk_alloc ?_ _)); exact BK363.out)) : gb363 ≠ gb370)); have n7_ := Aside0.mk ((by rw [hg]; exact Nat.ne_of_gt (blk_lt (g := gb363) (o := .cells #[.slice A0_0 l0_0.length c0_0] 24 (0, 0)) (by (with_reducible repeat (first | refine blk_drewN ?_ _ | refine blk_drew ?_ | refine blk_alloc ?_ _)); exact BK363.out)) : gb370 ≠ gb363)); clear HO367; clear BK363; clear HB; have HO367 := n0_; have BK363 := n1_; have HB := n2_; have BK370 := n3_; have GW370 := n4_; have GE370 := n5_; have NB363_370 := n6_; have NB370_363 := n7_; clear n0_ n1_ n2_ n3_ n4_ n5_ n6_ n7_; clear hb hbox hg; obtain ⟨Ao111, co111, eo111⟩ := Kd.R_slice HO367.out; subst eo111; have hnb112 := NB370_363.out; have hnc112 := NB363_370.out; have hcz113_0 : w110.cell? ⟨gb370, 0, none⟩ = some (.slice none 0 0) := (blk_cell BK370.out 0).trans rfl; have hfz113_0 := blk_frozen BK370.out 0))
            go_ret
            exact ⟨by first | rfl | (simp [errW_none, errW_some] <;> rfl) | (simp [*, errW_none, errW_some] <;> rfl), by repeat (first | (with_reducible first | exact HB.out | apply below_alloc | apply pw_below_drewN | apply below_drew1 | refine below_set ?_ GE363.out | refine below_set ?_ GE370.out) | exact HB.out)⟩
  · replace c6 := Bool.eq_false_iff.mpr c6
    subst c6
    have H1 : (some false) = some r := by rw [if_neg (show ¬ (false = true) by decide)] at H; exact H
    clear H
    have H := H1
    clear H1
    obtain rfl := Option.some.inj H
    go_enter Tryd.func5, Tryd.ntmps5
    go_wp2_with (first | ((with_reducible refine gate_dst (N := 4) rfl ?_); refine box_event ?hg (N := 4) ?hd (cs := #[.slice A0_0 l0_0.length c0_0]) (t := 24) ?hr ?_; (case hd => rfl); (case hg => rfl); (case hr => first | (go_simp; done) | (go_simp; rfl)); intro gb363 hg w114 hbox hb; have n0_ := Aside0.mk (below_step (by repeat (first | (with_reducible first | exact HB.out | apply below_alloc | apply pw_below_drewN | apply below_drew1) | exact HB.out)) hb); have n1_ := Aside0.mk (hbox); have n2_ := Aside0.mk ((by rw [hg]; exact (below_size (by repeat (first | (with_reducible first | exact HB.out | apply below_alloc | apply pw_below_drewN | apply below_drew1) | exact HB.out))) : w.heap.size ≤ gb363)); have n3_ := Aside0.mk ((by rw [hg]; exact (below_size (by repeat (first | (with_reducible first | exact HB.out | apply below_alloc | apply pw_below_drewN | apply below_drew1) | exact HB.out))) : w.heap.size ≤ gb363)); clear HB; have HB := n0_; have BK363 := n1_; have GW363 := n2_; have GE363 := n3_; clear n0_ n1_ n2_ n3_; clear hb hbox hg) | ((with_reducible refine gate_callee (f := 18) rfl ?_); refine goesL_ (some 18) rfl rfl Tryd.func18 (by kernel_rfl) rfl #[] rfl (by (try simp only [List.map_toArray, List.map_cons, List.map_nil]); first | done | rfl | (simp only [List.length_drop, List.length_take]; rfl)) ?_; (with_reducible refine (snowlinelaw02_sane.calls k  false _ ?hgl_ A5.out).mono ?_); (case hgl_ => exact HGl.out.below (by repeat (first | (with_reducible first | exact HB.out | apply below_alloc | apply pw_below_drewN | apply below_drew1 | refine below_set ?_ GE363.out) | exact HB.out)) (Nat.le_refl _)); rintro e w115 ⟨rfl, hb⟩; refine ⟨_, rfl, ?_⟩; have n0_ := Aside0.mk (blk_below (g := gb363) (o := .cells #[.slice A0_0 l0_0.length c0_0] 24 (0, 0)) (by (with_reducible repeat (first | refine blk_drewN ?_ _ | refine blk_drew ?_ | refine blk_alloc ?_ _)); exact BK363.out) hb); have n1_ := Aside0.mk (below_step (by repeat (first | (with_reducible first | exact HB.out | apply below_alloc | apply pw_below_drewN | apply below_drew1 | refine below_set ?_ GE363.out) | exact HB.out)) hb); clear BK363; clear HB; have BK363 := n0_; have HB := n1_; clear n0_ n1_; (try clear hb); (try clear hb2); (try clear hk); (try clear hi)))
    go_ret
    exact ⟨by first | rfl | (simp [errW_none, errW_some] <;> rfl) | (simp [*, errW_none, errW_some] <;> rfl), by repeat (first | (with_reducible first | exact HB.out | apply below_alloc | apply pw_below_drewN | apply below_drew1 | refine below_set ?_ GE363.out) | exact HB.out)⟩
end Go.Proofs.YtpldcikmlpegpaaDoor.PB
end
section
namespace Go.Proofs.YtpldcikmlpegpaaDoor.Plain
open Go.RowKit Go.Proofs.YtpldcikmlpegpaaDoor.PB
abbrev Ly := S48
@[ext] theorem Ly.ext' {a b : Ly} (h0 : a.f0 = b.f0) (h1 : a.f1 = b.f1) (h2 : a.f2 = b.f2) : a = b := by
  cases a; cases b; simp_all
def Fit (l : Ly) : Prop := 0 ≤ l.f0 ∧ 0 ≤ l.f1 ∧ l.f1 ≤ l.f0 / 20 ∧ 0 ≤ l.f2
def Fits (ls : List Ly) : Prop := ∀ l ∈ ls, Fit l
theorem Fits.nil : Fits [] := by intro l h; cases h
theorem Fits.cons {l : Ly} {ls : List Ly} (h : Fit l) (hs : Fits ls) : Fits (l :: ls) := by
  intro x hx
  rcases List.mem_cons.mp hx with rfl | hx
  · exact h
  · exact hs x hx
theorem Fits.head {l : Ly} {ls : List Ly} (h : Fits (l :: ls)) : Fit l := h l List.mem_cons_self
theorem Fits.tail {l : Ly} {ls : List Ly} (h : Fits (l :: ls)) : Fits ls := fun x hx => h x (List.mem_cons_of_mem _ hx)
def water : List Ly → Int
  | [] => 0
  | l :: ls => l.f0 + l.f1 + water ls
def cold : List Ly → Int
  | [] => 0
  | l :: ls => l.f2 + cold ls
theorem water_nonneg {ls : List Ly} (h : Fits ls) : 0 ≤ water ls := by
  induction ls with
  | nil => exact Int.le_refl _
  | cons l ls ih =>
    have := ih h.tail
    obtain ⟨a, b, c, d⟩ := h.head
    simp only [water]
    omega
theorem cold_nonneg {ls : List Ly} (h : Fits ls) : 0 ≤ cold ls := by
  induction ls with
  | nil => exact Int.le_refl _
  | cons l ls ih =>
    have := ih h.tail
    obtain ⟨a, b, c, d⟩ := h.head
    simp only [cold]
    omega
def into (l : Ly) (m : Int) : Ly × Int :=
  let fr := min m l.f2
  let kept := min (m - fr) ((l.f0 + fr) / 20 - l.f1)
  (⟨l.f0 + fr, l.f1 + kept, l.f2 - fr⟩, m - fr - kept)
def flow : List Ly → Int → List Ly × Int
  | [], m => ([], m)
  | l :: ls, m => if 0 < m then ((into l m).1 :: (flow ls (into l m).2).1, (flow ls (into l m).2).2) else (l :: ls, m)
def flow1 : List Ly → List Ly × Int
  | [] => ([], 1)
  | l :: ls => if l.f2 = 0 ∧ l.f0 / 20 ≤ l.f1 then (l :: (flow1 ls).1, (flow1 ls).2)
      else if 0 < l.f2 then (⟨l.f0 + 1, l.f1, l.f2 - 1⟩ :: ls, 0) else (⟨l.f0, l.f1 + 1, l.f2⟩ :: ls, 0)
theorem flow_zero (ls : List Ly) : flow ls 0 = (ls, 0) := by
  cases ls <;> simp [flow]
theorem into_fit {l : Ly} {m : Int} (h : Fit l) (hm : 0 ≤ m) : Fit (into l m).1 ∧ 0 ≤ (into l m).2 := by
  obtain ⟨a, b, c, d⟩ := h
  simp only [into, Fit]
  omega
theorem into_water (l : Ly) (m : Int) : (into l m).1.f0 + (into l m).1.f1 + (into l m).2 = l.f0 + l.f1 + m := by
  simp only [into]; omega
theorem into_cold {l : Ly} {m : Int} (h : Fit l) (hm : 0 ≤ m) : (into l m).1.f2 ≤ l.f2 ∧ l.f0 ≤ (into l m).1.f0 := by
  obtain ⟨a, b, c, d⟩ := h
  simp only [into]
  omega
theorem flow_fit {ls : List Ly} : ∀ {m : Int}, Fits ls → 0 ≤ m → Fits (flow ls m).1 ∧ 0 ≤ (flow ls m).2 := by
  induction ls with
  | nil => intro m h hm; exact ⟨Fits.nil, hm⟩
  | cons l ls ih =>
    intro m h hm
    simp only [flow]
    split
    · obtain ⟨f, r⟩ := into_fit h.head hm
      obtain ⟨g, s⟩ := ih h.tail r
      exact ⟨Fits.cons f g, s⟩
    · exact ⟨h, hm⟩
theorem flow_water (ls : List Ly) : ∀ (m : Int), water (flow ls m).1 + (flow ls m).2 = water ls + m := by
  induction ls with
  | nil => intro m; simp [flow, water]
  | cons l ls ih =>
    intro m
    simp only [flow]
    split
    · have := ih (into l m).2
      have := into_water l m
      simp only [water]
      omega
    · simp only [water]
theorem flow_cold {ls : List Ly} : ∀ {m : Int}, Fits ls → 0 ≤ m → cold (flow ls m).1 ≤ cold ls := by
  induction ls with
  | nil => intro m h hm; exact Int.le_refl _
  | cons l ls ih =>
    intro m h hm
    simp only [flow]
    split
    · have := ih h.tail (into_fit h.head hm).2
      have := (into_cold h.head hm).1
      simp only [cold]
      omega
    · exact Int.le_refl _
theorem flow_length (ls : List Ly) : ∀ (m : Int), (flow ls m).1.length = ls.length := by
  induction ls with
  | nil => intro m; rfl
  | cons l ls ih =>
    intro m
    simp only [flow]
    split
    · simp [ih]
    · rfl
theorem flow_succ {ls : List Ly} : ∀ {m : Int}, Fits ls → 0 ≤ m → flow ls (m + 1) = ((flow (flow1 ls).1 m).1, (flow1 ls).2 + (flow (flow1 ls).1 m).2) := by
  induction ls with
  | nil => intro m _ _; simp [flow, flow1]; omega
  | cons l ls ih =>
    intro m h hm
    obtain ⟨a, b, c, d⟩ := h.head
    have hlt : 0 < m + 1 := by omega
    simp only [flow1]
    split
    · rename_i hf
      obtain ⟨f2, f1⟩ := hf
      have e : into l (m + 1) = (l, m + 1) := by
        simp only [into]
        refine Prod.ext ?_ ?_
        · apply Ly.ext' <;> dsimp only <;> omega
        · dsimp only; omega
      have e' : into l m = (l, m) := by
        simp only [into]
        refine Prod.ext ?_ ?_
        · apply Ly.ext' <;> dsimp only <;> omega
        · dsimp only; omega
      simp only [flow, if_pos hlt, e]
      rw [ih h.tail hm]
      by_cases h0 : 0 < m
      · rw [if_pos h0, e']
      · have : m = 0 := by omega
        subst this
        simp [flow_zero]
    · rename_i hf
      split
      · rename_i h2
        simp only [flow, if_pos hlt]
        by_cases h0 : 0 < m
        · have e : into l (m + 1) = into ⟨l.f0 + 1, l.f1, l.f2 - 1⟩ m := by
            simp only [into]
            refine Prod.ext ?_ ?_
            · apply Ly.ext' <;> dsimp only <;> omega
            · dsimp only; omega
          rw [if_pos h0, e]
          simp
        · have : m = 0 := by omega
          subst this
          have e : into l (0 + 1) = (⟨l.f0 + 1, l.f1, l.f2 - 1⟩, 0) := by
            simp only [into]
            refine Prod.ext ?_ ?_
            · apply Ly.ext' <;> dsimp only <;> omega
            · dsimp only; omega
          rw [e]
          simp [flow_zero]
      · rename_i h2
        simp only [flow, if_pos hlt]
        by_cases h0 : 0 < m
        · have e : into l (m + 1) = into ⟨l.f0, l.f1 + 1, l.f2⟩ m := by
            simp only [into]
            refine Prod.ext ?_ ?_
            · apply Ly.ext' <;> dsimp only <;> omega
            · dsimp only; omega
          rw [if_pos h0, e]
          simp
        · have : m = 0 := by omega
          subst this
          have e : into l (0 + 1) = (⟨l.f0, l.f1 + 1, l.f2⟩, 0) := by
            simp only [into]
            refine Prod.ext ?_ ?_
            · apply Ly.ext' <;> dsimp only <;> omega
            · dsimp only; omega
          rw [e]
          simp [flow_zero]
theorem flow1_eq {ls : List Ly} (h : Fits ls) : flow1 ls = flow ls 1 := by
  have := flow_succ (m := 0) h (Int.le_refl _)
  simp only [flow_zero] at this
  rw [show (0 : Int) + 1 = 1 from rfl] at this
  rw [this]
  simp
theorem flow1_fit {ls : List Ly} (h : Fits ls) : Fits (flow1 ls).1 ∧ 0 ≤ (flow1 ls).2 := by
  rw [flow1_eq h]; exact flow_fit h (by omega)
theorem flow_add {ls : List Ly} (a b : Nat) (h : Fits ls) : flow ls ((a : Int) + b) = ((flow (flow ls a).1 b).1, (flow ls a).2 + (flow (flow ls a).1 b).2) := by
  induction a generalizing ls with
  | zero => simp [flow_zero]
  | succ a ih =>
    have e1 : (((a + 1 : Nat) : Int) + b) = ((a : Int) + b) + 1 := by omega
    have e2 : ((a + 1 : Nat) : Int) = (a : Int) + 1 := by omega
    rw [e1, flow_succ h (by omega), e2, flow_succ h (by omega), ih (flow1_fit h).1]
    simp [Int.add_assoc]
theorem flow_add' {ls : List Ly} {a b : Int} (ha : 0 ≤ a) (hb : 0 ≤ b) (h : Fits ls) : flow ls (a + b) = ((flow (flow ls a).1 b).1, (flow ls a).2 + (flow (flow ls a).1 b).2) := by
  have := flow_add a.toNat b.toNat h
  rw [Int.toNat_of_nonneg ha, Int.toNat_of_nonneg hb] at this
  exact this
end Go.Proofs.YtpldcikmlpegpaaDoor.Plain
end
section
namespace Go.Proofs.YtpldcikmlpegpaaDoor.Plain
open Go.RowKit Go.Proofs.YtpldcikmlpegpaaDoor.PB
def lose1 (l : Ly) (ls : List Ly) (more : Int) : List Ly × Int :=
  let wet := min (l.f1 + more) ((l.f0 - 1) / 20)
  let r := flow ls (l.f1 + more - wet)
  if l.f0 - 1 = 0 then r else (⟨l.f0 - 1, wet, l.f2⟩ :: r.1, r.2)
def vanish1 : List Ly → List Ly × Int
  | [] => ([], 0)
  | l :: ls => lose1 l ls 0
def melt1 : List Ly → List Ly × Int
  | [] => ([], 0)
  | l :: ls => if 0 < l.f2 then (⟨l.f0, l.f1, l.f2 - 1⟩ :: ls, 0) else lose1 l ls 1
def times (f : List Ly → List Ly × Int) : Nat → List Ly → List Ly × Int × Int
  | 0, L => (L, 0, 0)
  | _ + 1, [] => ([], 0, 0)
  | n + 1, l :: ls => ((times f n (f (l :: ls)).1).1, (f (l :: ls)).2 + (times f n (f (l :: ls)).1).2.1, 1 + (times f n (f (l :: ls)).1).2.2)
theorem times_nil (f : List Ly → List Ly × Int) (n : Nat) : times f n [] = ([], 0, 0) := by cases n <;> rfl
def Live (ls : List Ly) : Prop := ∀ l ∈ ls, Fit l ∧ 1 ≤ l.f0
theorem Live.fits {ls : List Ly} (h : Live ls) : Fits ls := fun l hl => (h l hl).1
theorem Live.nil : Live [] := by intro l h; cases h
theorem Live.cons {l : Ly} {ls : List Ly} (h : Fit l) (h1 : 1 ≤ l.f0) (hs : Live ls) : Live (l :: ls) := by
  intro x hx
  rcases List.mem_cons.mp hx with rfl | hx
  · exact ⟨h, h1⟩
  · exact hs x hx
theorem Live.head {l : Ly} {ls : List Ly} (h : Live (l :: ls)) : Fit l ∧ 1 ≤ l.f0 := h l List.mem_cons_self
theorem Live.tail {l : Ly} {ls : List Ly} (h : Live (l :: ls)) : Live ls := fun x hx => h x (List.mem_cons_of_mem _ hx)
theorem flow_live {ls : List Ly} : ∀ {m : Int}, Live ls → 0 ≤ m → Live (flow ls m).1 := by
  induction ls with
  | nil => intro m h hm; exact Live.nil
  | cons l ls ih =>
    intro m h hm
    simp only [flow]
    split
    · obtain ⟨f, r⟩ := into_fit h.head.1 hm
      have := (into_cold h.head.1 hm).2
      exact Live.cons f (by have := h.head.2; omega) (ih h.tail r)
    · exact h
theorem lose1_rest {l : Ly} {more : Int} (h : Fit l) (h1 : 1 ≤ l.f0) (hm : 0 ≤ more) : 0 ≤ l.f1 + more - min (l.f1 + more) ((l.f0 - 1) / 20) ∧ 0 ≤ min (l.f1 + more) ((l.f0 - 1) / 20) := by
  obtain ⟨a, b, c, d⟩ := h
  omega
theorem lose1_live {l : Ly} {ls : List Ly} {more : Int} (h : Live (l :: ls)) (hm : 0 ≤ more) : Live (lose1 l ls more).1 ∧ 0 ≤ (lose1 l ls more).2 := by
  obtain ⟨f, h1⟩ := h.head
  obtain ⟨r0, w0⟩ := lose1_rest f h1 hm
  have g := flow_fit h.tail.fits r0
  have g' := flow_live h.tail r0
  simp only [lose1]
  split
  · exact ⟨g', g.2⟩
  · refine ⟨Live.cons ?_ ?_ g', g.2⟩
    · obtain ⟨a, b, c, d⟩ := f
      simp only [Fit]
      omega
    · dsimp only
      omega
theorem lose1_water {l : Ly} {ls : List Ly} {more : Int} (h : Live (l :: ls)) (hm : 0 ≤ more) : water (lose1 l ls more).1 + (lose1 l ls more).2 = water (l :: ls) - 1 + more := by
  obtain ⟨f, h1⟩ := h.head
  have g := flow_water ls (l.f1 + more - min (l.f1 + more) ((l.f0 - 1) / 20))
  obtain ⟨a, b, c, d⟩ := f
  simp only [lose1]
  split
  · simp only [water]
    omega
  · simp only [water]
    omega
theorem lose1_cold {l : Ly} {ls : List Ly} {more : Int} (h : Live (l :: ls)) (hm : 0 ≤ more) : cold (lose1 l ls more).1 ≤ cold (l :: ls) := by
  obtain ⟨f, h1⟩ := h.head
  obtain ⟨r0, w0⟩ := lose1_rest f h1 hm
  have g := flow_cold h.tail.fits r0
  obtain ⟨a, b, c, d⟩ := f
  simp only [lose1]
  split
  · simp only [cold]; omega
  · simp only [cold]; omega
structure Round (f : List Ly → List Ly × Int) (d : Int) : Prop where
  live : ∀ {l ls}, Live (l :: ls) → Live (f (l :: ls)).1 ∧ 0 ≤ (f (l :: ls)).2
  water : ∀ {l ls}, Live (l :: ls) → water (f (l :: ls)).1 + (f (l :: ls)).2 + d = water (l :: ls)
  cold : ∀ {l ls}, Live (l :: ls) → cold (f (l :: ls)).1 ≤ cold (l :: ls)
  len : ∀ {l ls}, Live (l :: ls) → (f (l :: ls)).1.length ≤ (l :: ls).length
theorem lose1_len (l : Ly) (ls : List Ly) (more : Int) : (lose1 l ls more).1.length ≤ (l :: ls).length := by
  simp only [lose1]
  split <;> simp [flow_length]
theorem vanish_round : Round vanish1 1 where
  live h := lose1_live h (Int.le_refl _)
  water h := by have := lose1_water h (Int.le_refl 0); simp only [vanish1]; omega
  cold h := lose1_cold h (Int.le_refl _)
  len _ := lose1_len _ _ _
theorem melt_round : Round melt1 0 where
  live {l ls} h := by
    simp only [melt1]
    split
    · rename_i h2
      obtain ⟨⟨a, b, c, d⟩, h1⟩ := h.head
      exact ⟨Live.cons (by simp only [Fit]; omega) h1 h.tail, Int.le_refl _⟩
    · exact lose1_live h (by omega)
  water {l ls} h := by
    simp only [melt1]
    split
    · simp only [water]; omega
    · have := lose1_water h (show (0 : Int) ≤ 1 by omega); omega
  cold {l ls} h := by
    simp only [melt1]
    split
    · simp only [cold]; omega
    · exact lose1_cold h (by omega)
  len {l ls} h := by
    simp only [melt1]
    split
    · simp
    · exact lose1_len _ _ _
section
variable {f : List Ly → List Ly × Int} {d : Int}
theorem times_keeps (hf : Round f d) (n : Nat) : ∀ {L : List Ly}, Live L → Live (times f n L).1 ∧ 0 ≤ (times f n L).2.1 ∧ 0 ≤ (times f n L).2.2 ∧ (times f n L).2.2 ≤ n ∧
    water (times f n L).1 + (times f n L).2.1 + d * (times f n L).2.2 = water L ∧ cold (times f n L).1 ≤ cold L ∧ (times f n L).1.length ≤ L.length ∧ ((times f n L).1 ≠ [] → (times f n L).2.2 = n) := by
  induction n with
  | zero => intro L h; simp [times, h]
  | succ n ih =>
    intro L h
    cases L with
    | nil => simp [times, Live.nil]; omega
    | cons l ls =>
      have a := hf.live h
      have b := hf.water h
      have c := hf.cold h
      have e := hf.len h
      obtain ⟨i1, i2, i3, i4, i5, i6, i7, i8⟩ := ih a.1
      have hd : d * (1 + (times f n (f (l :: ls)).1).2.2) = d + d * (times f n (f (l :: ls)).1).2.2 := by rw [Int.mul_add, Int.mul_one]
      simp only [times]
      refine ⟨i1, by omega, by omega, by omega, by omega, by omega, by omega, fun hne => ?_⟩
      have := i8 hne
      omega
theorem times_add (f : List Ly → List Ly × Int) (m n : Nat) : ∀ (L : List Ly), times f (m + n) L = ((times f n (times f m L).1).1, (times f m L).2.1 + (times f n (times f m L).1).2.1, (times f m L).2.2 + (times f n (times f m L).1).2.2) := by
  induction m with
  | zero => intro L; simp [times]
  | succ m ih =>
    intro L
    cases L with
    | nil => simp [times_nil]
    | cons l ls =>
      have e : m + 1 + n = (m + n) + 1 := by omega
      rw [e]
      simp only [times]
      rw [ih]
      simp [Int.add_assoc]
end
def freezes : List Ly → Int → List Ly × Int
  | [], m => ([], m)
  | l :: ls, m => (⟨l.f0 + min m l.f1, l.f1 - min m l.f1, l.f2⟩ :: (freezes ls (m - min m l.f1)).1, (freezes ls (m - min m l.f1)).2)
def chill : List Ly → Int → List Ly
  | [], _ => []
  | l :: ls, m => ⟨l.f0, l.f1, l.f2 + m⟩ :: ls
def freeze (ls : List Ly) (m : Int) : List Ly := chill (freezes ls m).1 (freezes ls m).2
theorem freezes_fit {ls : List Ly} : ∀ {m : Int}, Live ls → 0 ≤ m → Live (freezes ls m).1 ∧ 0 ≤ (freezes ls m).2 ∧ (freezes ls m).2 ≤ m ∧ water (freezes ls m).1 = water ls ∧ cold (freezes ls m).1 = cold ls ∧ (freezes ls m).1.length = ls.length := by
  induction ls with
  | nil => intro m h hm; exact ⟨Live.nil, hm, Int.le_refl _, rfl, rfl, rfl⟩
  | cons l ls ih =>
    intro m h hm
    obtain ⟨⟨a, b, c, d⟩, h1⟩ := h.head
    obtain ⟨i1, i2, i3, i4, i5, i6⟩ := ih (m := m - min m l.f1) h.tail (by omega)
    simp only [freezes]
    refine ⟨Live.cons ?_ ?_ i1, i2, by omega, ?_, ?_, ?_⟩
    · simp only [Fit]; omega
    · dsimp only; omega
    · simp only [water]; omega
    · simp only [cold]; omega
    · simp [i6]
theorem freezes_add {ls : List Ly} : ∀ {a b : Int}, Live ls → 0 ≤ a → 0 ≤ b → freezes ls (a + b) = ((freezes (freezes ls a).1 b).1, (freezes ls a).2 + (freezes (freezes ls a).1 b).2) := by
  induction ls with
  | nil => intro a b _ _ _; rfl
  | cons l ls ih =>
    intro a b h ha hb
    obtain ⟨⟨x, y, z, t⟩, h1⟩ := h.head
    simp only [freezes]
    have e1 : a + b - min (a + b) l.f1 = (a - min a l.f1) + (b - min b (l.f1 - min a l.f1)) := by omega
    rw [e1, ih h.tail (by omega) (by omega)]
    refine Prod.ext ?_ rfl
    dsimp only
    congr 1
    apply Ly.ext' <;> dsimp only <;> omega
theorem freezes_chill {ls : List Ly} {c m : Int} : freezes (chill ls c) m = (chill (freezes ls m).1 c, (freezes ls m).2) := by
  cases ls with
  | nil => rfl
  | cons l ls => simp [chill, freezes]
theorem chill_chill (ls : List Ly) (a b : Int) : chill (chill ls a) b = chill ls (a + b) := by
  cases ls with
  | nil => rfl
  | cons l ls => simp [chill, Int.add_assoc]
theorem freeze_add {ls : List Ly} {a b : Int} (h : Live ls) (ha : 0 ≤ a) (hb : 0 ≤ b) : freeze ls (a + b) = freeze (freeze ls a) b := by
  unfold freeze
  rw [freezes_add h ha hb, freezes_chill, chill_chill]
end Go.Proofs.YtpldcikmlpegpaaDoor.Plain
end
section
namespace Go.Proofs.YtpldcikmlpegpaaDoor.Plain
open Go.RowKit Go.Proofs.YtpldcikmlpegpaaDoor.PB
theorem wr (x : Int) (h : -9223372036854775808 ≤ x ∧ x ≤ 9223372036854775807) : wrap64 x = x := by
  unfold wrap64
  omega
def Right (l : Ly) : Prop := 1 ≤ l.f0 ∧ l.f0 ≤ 65536 ∧ 0 ≤ l.f2 ∧ l.f2 ≤ 65536 ∧ 0 ≤ l.f1 ∧ l.f1 ≤ l.f0 / 20 ∧ (l.f1 = 0 ∨ l.f2 = 0)
instance (l : Ly) : Decidable (Right l) := inferInstanceAs (Decidable (_ ∧ _))
def Rights (ls : List Ly) : Prop := ∀ l ∈ ls, Right l
instance (ls : List Ly) : Decidable (Rights ls) := inferInstanceAs (Decidable (∀ l ∈ ls, Right l))
def Valid (ls : List Ly) : Prop := ls.length ≤ 64 ∧ Rights ls ∧ water ls ≤ 65536 ∧ cold ls ≤ 65536
instance (ls : List Ly) : Decidable (Valid ls) := inferInstanceAs (Decidable (_ ∧ _))
def checkE (ls : List Ly) : Int := if Valid ls then 0 else 20
theorem Right.live {l : Ly} (h : Right l) : Fit l ∧ 1 ≤ l.f0 := by
  obtain ⟨a, b, c, d, e, f, g⟩ := h
  unfold Fit
  omega
theorem Rights.live {ls : List Ly} (h : Rights ls) : Live ls := fun l hl => (h l hl).live
theorem Rights.head {l : Ly} {ls : List Ly} (h : Rights (l :: ls)) : Right l := h l List.mem_cons_self
theorem Rights.tail {l : Ly} {ls : List Ly} (h : Rights (l :: ls)) : Rights ls := fun x hx => h x (List.mem_cons_of_mem _ hx)
theorem Valid.live {ls : List Ly} (h : Valid ls) : Live ls := h.2.1.live
theorem from_eq (a b c : Int) : pack_from.f a b c = some (decide (b ≤ a ∧ a ≤ c)) := by
  unfold pack_from.f
  by_cases h : a ≥ b
  · rw [if_pos h]; congr 1; simp; omega
  · rw [if_neg h]; congr 1; symm; simp; omega
theorem some_true {p : Prop} [Decidable p] (h : p) : (some true : Option Bool) = some (decide p) := by rw [decide_eq_true h]
theorem some_false {p : Prop} [Decidable p] (h : ¬ p) : (some false : Option Bool) = some (decide p) := by rw [decide_eq_false h]
theorem right_eq (a b c : Int) : pack_right.f a b c = some (decide (Right ⟨a, b, c⟩)) := by
  unfold pack_right.f
  simp only [from_eq, Option.bind_some, pack_hold.f, decide_eq_true_eq]
  by_cases h1 : 1 ≤ a ∧ a ≤ 65536
  · have ht : wrap64 (Int.tdiv a 20) = a / 20 := by rw [Int.tdiv_eq_ediv_of_nonneg (by omega), wr _ (by omega)]
    rw [if_pos h1]
    by_cases h2 : 0 ≤ c ∧ c ≤ 65536
    · rw [if_pos h2, ht]
      by_cases h3 : 0 ≤ b ∧ b ≤ a / 20
      · rw [if_pos h3]
        by_cases h4 : b = 0
        · rw [if_pos h4]; exact some_true ⟨h1.1, h1.2, h2.1, h2.2, h3.1, h3.2, .inl h4⟩
        · rw [if_neg h4]
          by_cases h5 : c = 0
          · rw [show (c == 0) = true by simp [h5]]; exact some_true ⟨h1.1, h1.2, h2.1, h2.2, h3.1, h3.2, .inr h5⟩
          · rw [show (c == 0) = false by simp [h5]]; exact some_false (fun h => h.2.2.2.2.2.2.elim h4 h5)
      · rw [if_neg h3]; exact some_false (fun h => h3 ⟨h.2.2.2.2.1, h.2.2.2.2.2.1⟩)
    · rw [if_neg h2]; exact some_false (fun h => h2 ⟨h.2.2.1, h.2.2.2.1⟩)
  · rw [if_neg h1]; exact some_false (fun h => h1 ⟨h.1, h.2.1⟩)
theorem rd_drop {ls : List Ly} {i : Nat} (h : i < ls.length) : ls.drop i = rd_T48 ls (i : Int) :: ls.drop (i + 1) := by
  rw [List.drop_eq_getElem_cons h]
  congr 1
  simp [rd_T48, List.getD_eq_getElem?_getD, h]
theorem sums_loop (ls : List Ly) (hr : Rights ls) (hl : ls.length ≤ 128) : ∀ (d k i : Nat) (w c : Int), i + d = ls.length → d < k → 0 ≤ w → w ≤ 131072 * (i : Int) → 0 ≤ c → c ≤ 65536 * (i : Int) →
    pack_sums.l0 k w c ls (ls.length : Int) (i : Int) = some (w + water (ls.drop i), c + cold (ls.drop i)) := by
  intro d
  induction d with
  | zero =>
    intro k i w c hi hk _ _ _ _
    obtain ⟨k, rfl⟩ : ∃ j, k = j + 1 := ⟨k - 1, by omega⟩
    unfold pack_sums.l0
    rw [if_neg (by omega), List.drop_eq_nil_of_le (by omega)]
    simp [water, cold]
  | succ d ih =>
    intro k i w c hi hk h0 h1 h2 h3
    obtain ⟨k, rfl⟩ : ∃ j, k = j + 1 := ⟨k - 1, by omega⟩
    have hm : Right (rd_T48 ls (i : Int)) := hr _ (by
      have : rd_T48 ls (i : Int) ∈ ls.drop i := by rw [rd_drop (by omega)]; exact List.mem_cons_self
      exact List.mem_of_mem_drop this)
    obtain ⟨a, b, cc, dd, e, f, g⟩ := hm
    unfold pack_sums.l0
    rw [if_pos (by omega), if_pos (by omega), if_pos (by omega)]
    rw [rd_drop (show i < ls.length by omega)]
    simp only [water, cold]
    rw [wr ((rd_T48 ls (i : Int)).f0 + _) (by omega), wr (w + _) (by omega), wr (c + _) (by omega), wr ((i : Int) + 1) (by omega)]
    have := ih k (i + 1) (w + ((rd_T48 ls (i : Int)).f0 + (rd_T48 ls (i : Int)).f1)) (c + (rd_T48 ls (i : Int)).f2) (by omega) (by omega) (by omega) (by push_cast; omega) (by omega) (by push_cast; omega)
    push_cast at this
    rw [this]
    congr 2 <;> omega
theorem sums_eq {k : Nat} {ls : List Ly} (hr : Rights ls) (hl : ls.length ≤ 128) (hk : ls.length < k) : pack_sums.f k ls = some (water ls, cold ls) := by
  unfold pack_sums.f
  have := sums_loop ls hr hl ls.length k 0 0 0 (by omega) hk (by omega) (by omega) (by omega) (by omega)
  simpa using this
theorem check_loop (ls : List Ly) (hl : ls.length ≤ 64) : ∀ (d k i : Nat), i + d = ls.length → d + 65 < k → Rights (ls.take i) →
    pack_Check.l0 k ls (ls.length : Int) (i : Int) ls = some (checkE ls) := by
  intro d
  induction d with
  | zero =>
    intro k i hi hk h
    obtain ⟨k, rfl⟩ : ∃ j, k = j + 1 := ⟨k - 1, by omega⟩
    rw [List.take_of_length_le (by omega)] at h
    unfold pack_Check.l0
    rw [if_neg (by omega), sums_eq h (by omega) (by omega)]
    simp only [Option.bind_some, checkE]
    by_cases hw : water ls > 65536
    · rw [if_pos hw, if_neg (fun hv : Valid ls => by have := hv.2.2.1; omega)]
    · rw [if_neg hw]
      by_cases hc : cold ls > 65536
      · rw [if_pos hc, if_neg (fun hv : Valid ls => by have := hv.2.2.2; omega)]
      · rw [if_neg hc, if_pos (show Valid ls from ⟨hl, h, by omega, by omega⟩)]
  | succ d ih =>
    intro k i hi hk h
    obtain ⟨k, rfl⟩ : ∃ j, k = j + 1 := ⟨k - 1, by omega⟩
    unfold pack_Check.l0
    rw [if_pos (by omega), if_pos (by omega), if_pos (by omega), right_eq]
    simp only [Option.bind_some, decide_eq_true_eq]
    have hd := rd_drop (show i < ls.length by omega)
    by_cases hr : Right (rd_T48 ls (i : Int))
    · rw [if_pos (by exact hr), wr ((i : Int) + 1) (by omega)]
      have := ih k (i + 1) (by omega) (by omega) (by
        intro x hx
        rw [List.take_add_one] at hx
        rcases List.mem_append.mp hx with hx | hx
        · exact h x hx
        · have e : ls[i]?.toList = [rd_T48 ls (i : Int)] := by
            simp [rd_T48, List.getD_eq_getElem?_getD, show i < ls.length by omega]
          rw [e] at hx
          rw [List.mem_singleton.mp hx]
          exact hr)
      push_cast at this
      exact this
    · rw [if_neg (by exact hr), checkE, if_neg]
      intro hv
      exact hr (hv.2.1 _ (by
        have : rd_T48 ls (i : Int) ∈ ls.drop i := by rw [hd]; exact List.mem_cons_self
        exact List.mem_of_mem_drop this))
theorem check_eq {k : Nat} (hk : 130 ≤ k) (ls : List Ly) : pack_Check.f k ls = some (checkE ls) := by
  unfold pack_Check.f
  by_cases h : (ls.length : Int) > 64
  · rw [if_pos h, checkE, if_neg (by rintro ⟨h1, _⟩; omega)]
  · rw [if_neg h]
    exact check_loop ls (by omega) ls.length k 0 (by omega) (by omega) (by intro x hx; simp at hx)
theorem checkE_zero {ls : List Ly} : checkE ls = 0 ↔ Valid ls := by
  unfold checkE
  split <;> simp_all
theorem checkE_pos {ls : List Ly} (h : Valid ls) : checkE ls = 0 := checkE_zero.2 h
theorem checkE_neg {ls : List Ly} (h : ¬ Valid ls) : checkE ls = 20 := if_neg h
instance : DecidableEq Ly := fun a b => decidable_of_iff (a.f0 = b.f0 ∧ a.f1 = b.f1 ∧ a.f2 = b.f2) ⟨fun h => Ly.ext' h.1 h.2.1 h.2.2, fun h => by rw [h]; exact ⟨rfl, rfl, rfl⟩⟩
theorem same_loop (xs ys : List Ly) (hl : xs.length = ys.length) (h64 : xs.length ≤ 4096) : ∀ (d k i : Nat), i + d = xs.length → d < k → xs.take i = ys.take i →
    snowlineref02_Same.l0 k (i : Int) xs ys = some (decide (xs = ys)) := by
  intro d
  induction d with
  | zero =>
    intro k i hi hk h
    obtain ⟨k, rfl⟩ : ∃ j, k = j + 1 := ⟨k - 1, by omega⟩
    rw [List.take_of_length_le (by omega), List.take_of_length_le (by omega)] at h
    unfold snowlineref02_Same.l0
    rw [if_neg (by omega)]
    exact some_true h
  | succ d ih =>
    intro k i hi hk h
    obtain ⟨k, rfl⟩ : ∃ j, k = j + 1 := ⟨k - 1, by omega⟩
    unfold snowlineref02_Same.l0
    rw [if_pos (by omega), if_pos (by omega), if_pos (by omega)]
    have hx := rd_drop (show i < xs.length by omega)
    have hy := rd_drop (show i < ys.length by omega)
    by_cases hr : rd_T48 xs (i : Int) = rd_T48 ys (i : Int)
    · rw [hr]
      simp only [BEq.rfl, Bool.not_true, Bool.or_self]
      rw [if_neg (by simp), wr ((i : Int) + 1) (by omega)]
      have := ih k (i + 1) (by omega) (by omega) (by
        have e : ∀ (zs : List Ly), i < zs.length → zs[i]?.toList = [rd_T48 zs (i : Int)] := by
          intro zs hz
          simp [rd_T48, List.getD_eq_getElem?_getD, hz]
        rw [List.take_add_one, List.take_add_one, h, e xs (by omega), e ys (by omega), hr])
      push_cast at this
      exact this
    · rw [if_pos]
      · refine some_false ?_
        rintro rfl
        exact hr rfl
      · by_cases h0 : (rd_T48 xs (i : Int)).f0 = (rd_T48 ys (i : Int)).f0 <;> by_cases h1 : (rd_T48 xs (i : Int)).f1 = (rd_T48 ys (i : Int)).f1 <;> by_cases h2 : (rd_T48 xs (i : Int)).f2 = (rd_T48 ys (i : Int)).f2 <;> simp [h0, h1, h2]
        exact hr (Ly.ext' h0 h1 h2)
theorem same_eq {k : Nat} {xs ys : List Ly} (h64 : xs.length ≤ 4096) (hk : xs.length < k) : snowlineref02_Same.f k xs ys = some (decide (xs = ys)) := by
  unfold snowlineref02_Same.f
  by_cases h : (xs.length : Int) = (ys.length : Int)
  · rw [if_pos h]
    exact same_loop xs ys (by omega) h64 xs.length k 0 (by omega) hk rfl
  · rw [if_neg h]
    refine some_false ?_
    rintro rfl
    exact h rfl
end Go.Proofs.YtpldcikmlpegpaaDoor.Plain
end
section
namespace Go.Proofs.YtpldcikmlpegpaaDoor.Plain
open Go.RowKit Go.Proofs.YtpldcikmlpegpaaDoor.PB Go.Proofs.YtpldcikmlpegpaaDoor.Col Go.Proofs.YtpldcikmlpegpaaDoorW.PrintWords Go.Proofs.YtpldcikmlpegpaaDoorW.PrintMore
theorem mn_min (a b : Int) : mn a b = min a b := by unfold mn; split <;> omega
def St (c : C) (n : Nat) (L : List Ly) (o t : Int) : Prop :=
  c.n = n ∧ c.out = o ∧ c.taken = t ∧ ∃ pre post, c.at_ = pre ++ L ++ post ∧ pre.length = c.top ∧ c.top + L.length = n
theorem St.live {c : C} {n : Nat} {L : List Ly} {o t : Int} (h : St c n L o t) : c.live = L := by
  obtain ⟨h1, h2, h3, pre, post, h4, h5, h6⟩ := h
  unfold C.live
  rw [h4, ← h5, List.append_assoc, List.drop_left, show c.n - pre.length = L.length by omega, List.take_left]
theorem st_of (l : List Ly) : St (C.of l) (l.length + 1) l 0 0 :=
  ⟨rfl, rfl, rfl, [z48], List.replicate (64 - l.length) z48, rfl, rfl, by show 1 + l.length = _; omega⟩
theorem stepW_into {l : Ly} {m : Int} (h : Fit l) (hm : 0 ≤ m) (hw : l.f0 + l.f1 + m ≤ 1099511627776) (hc : l.f2 ≤ 1099511627776) : stepW l m = into l m := by
  obtain ⟨a, b, c, d⟩ := h
  have h0 : 0 ≤ l.f0 + min m l.f2 := by omega
  unfold stepW into
  simp only [mn_min]
  rw [wr (l.f0 + min m l.f2) (by omega), Int.tdiv_eq_ediv_of_nonneg h0, wr (m - min m l.f2) (by omega), wr ((l.f0 + min m l.f2) / 20) (by omega), wr ((l.f0 + min m l.f2) / 20 - l.f1) (by omega)]
  rw [wr (l.f1 + _) (by omega), wr (l.f2 - _) (by omega), wr (m - min m l.f2 - _) (by omega)]
theorem get_mid (pre : List Ly) (l : Ly) (post : List Ly) : (pre ++ l :: post).getD pre.length z48 = l := by
  simp [List.getD_eq_getElem?_getD]
theorem set_mid (pre : List Ly) (l x : Ly) (post : List Ly) : (pre ++ l :: post).set pre.length x = pre ++ x :: post := by
  simp
theorem flowAt_flow : ∀ (L pre post : List Ly) (m : Int), Fits L → 0 ≤ m → water L + m ≤ 1099511627776 → cold L ≤ 1099511627776 →
    flowAt L.length (pre ++ L ++ post) pre.length m = (pre ++ (flow L m).1 ++ post, (flow L m).2) := by
  intro L
  induction L with
  | nil => intro pre post m _ _ _ _; rfl
  | cons l ls ih =>
    intro pre post m hf hm hw hc
    have f := hf.head
    have w0 := water_nonneg hf.tail
    have c0 := cold_nonneg hf.tail
    simp only [water, cold] at hw hc
    obtain ⟨a, b, c, d⟩ := f
    simp only [List.length_cons, flowAt, flow]
    split
    · have e : pre ++ (l :: ls) ++ post = pre ++ l :: (ls ++ post) := by simp
      have hs : stepW l m = into l m := stepW_into hf.head hm (by omega) (by omega)
      rw [e, get_mid, set_mid, hs]
      obtain ⟨g, r⟩ := into_fit hf.head hm
      have hiw := into_water l m
      have hg := g
      obtain ⟨a', b', c', d'⟩ := hg
      have e2 : pre ++ (into l m).1 :: (ls ++ post) = (pre ++ [(into l m).1]) ++ ls ++ post := by simp
      have e3 : pre.length + 1 = (pre ++ [(into l m).1]).length := by simp
      rw [e2, e3, ih (pre ++ [(into l m).1]) post (into l m).2 hf.tail r (by omega) (by omega)]
      simp
    · rfl
theorem c_lose {c : C} {n : Nat} {l : Ly} {ls : List Ly} {o t more : Int} (h : St c n (l :: ls) o t) (hl : Live (l :: ls)) (hm : 0 ≤ more) (hm1 : more ≤ 1) (ho : 0 ≤ o) (hw : water (l :: ls) + o ≤ 549755813888) (hc : cold (l :: ls) ≤ 549755813888) :
    St (c.lose more) n (lose1 l ls more).1 (o + (lose1 l ls more).2) t := by
  obtain ⟨h1, h2, h3, pre, post, h4, h5, h6⟩ := h
  have hk := lose1_live hl hm
  have hkw := lose1_water hl hm
  have wn := water_nonneg hk.1.fits
  obtain ⟨⟨a, b, cc, d⟩, i1⟩ := hl.head
  have w0 := water_nonneg hl.tail.fits
  have c0 := cold_nonneg hl.tail.fits
  have hw' := hw
  have hc' := hc
  simp only [water, cold] at hw' hc'
  obtain ⟨r0, r1⟩ := lose1_rest (more := more) hl.head.1 hl.head.2 hm
  have e : pre ++ (l :: ls) ++ post = pre ++ l :: (ls ++ post) := by simp
  have hd : 0 ≤ l.f0 - 1 := by omega
  have hL : loseW l more = (⟨l.f0 - 1, min (l.f1 + more) ((l.f0 - 1) / 20), l.f2⟩, l.f1 + more - min (l.f1 + more) ((l.f0 - 1) / 20)) := by
    unfold loseW
    simp only [mn_min]
    rw [wr (l.f0 - 1) (by omega), wr (l.f1 + more) (by omega), Int.tdiv_eq_ediv_of_nonneg hd, wr ((l.f0 - 1) / 20) (by omega), wr (l.f1 + more - _) (by omega)]
  have hln : c.n - (c.top + 1) = ls.length := by simp only [List.length_cons] at h6; omega
  have hfl := flowAt_flow ls (pre ++ [⟨l.f0 - 1, min (l.f1 + more) ((l.f0 - 1) / 20), l.f2⟩]) post (l.f1 + more - min (l.f1 + more) ((l.f0 - 1) / 20)) hl.tail.fits r0 (by omega) (by omega)
  have e2 : pre ++ (⟨l.f0 - 1, min (l.f1 + more) ((l.f0 - 1) / 20), l.f2⟩ : Ly) :: (ls ++ post) = (pre ++ [⟨l.f0 - 1, min (l.f1 + more) ((l.f0 - 1) / 20), l.f2⟩]) ++ ls ++ post := by simp
  have e3 : pre.length + 1 = (pre ++ [(⟨l.f0 - 1, min (l.f1 + more) ((l.f0 - 1) / 20), l.f2⟩ : Ly)]).length := by simp
  have hat : c.at_.getD c.top z48 = l := by rw [h4, ← h5, e, get_mid]
  have hset : c.at_.set c.top (loseW l more).1 = (pre ++ [⟨l.f0 - 1, min (l.f1 + more) ((l.f0 - 1) / 20), l.f2⟩]) ++ ls ++ post := by rw [h4, ← h5, e, set_mid, hL, ← e2]
  have hr : flowAt (c.n - (c.top + 1)) (c.at_.set c.top (loseW l more).1) (c.top + 1) (loseW l more).2 = ((pre ++ [⟨l.f0 - 1, min (l.f1 + more) ((l.f0 - 1) / 20), l.f2⟩]) ++ (flow ls (l.f1 + more - min (l.f1 + more) ((l.f0 - 1) / 20))).1 ++ post, (flow ls (l.f1 + more - min (l.f1 + more) ((l.f0 - 1) / 20))).2) := by
    rw [hset, hln, hL, ← h5, e3]
    exact hfl
  have hsnd : (lose1 l ls more).2 = (flow ls (l.f1 + more - min (l.f1 + more) ((l.f0 - 1) / 20))).2 := by
    simp only [lose1]
    split <;> rfl
  have hfl' : (flow ls (l.f1 + more - min (l.f1 + more) ((l.f0 - 1) / 20))).1.length = ls.length := flow_length _ _
  unfold C.lose
  simp only [hat, hr]
  refine ⟨h1, ?_, h3, ?_⟩
  · show wrap64 (c.out + _) = _
    rw [h2, ← hsnd, wr _ (by omega)]
  · rw [wr (l.f0 - 1) (by omega)]
    simp only [lose1]
    simp only [List.length_cons] at h6
    by_cases hz : l.f0 - 1 = 0
    · rw [if_pos hz, if_pos hz]
      exact ⟨_, post, rfl, by simp [h5], by rw [hfl']; omega⟩
    · rw [if_neg hz, if_neg hz]
      exact ⟨pre, post, by simp, h5, by simp only [List.length_cons]; rw [hfl']; omega⟩
theorem c_melt {c : C} {n : Nat} {l : Ly} {ls : List Ly} {o t : Int} (h : St c n (l :: ls) o t) (hl : Live (l :: ls)) (ho : 0 ≤ o) (hw : water (l :: ls) + o ≤ 549755813888) (hc : cold (l :: ls) ≤ 549755813888) :
    St c.melt n (melt1 (l :: ls)).1 (o + (melt1 (l :: ls)).2) (t + 0) := by
  obtain ⟨h1, h2, h3, pre, post, h4, h5, h6⟩ := id h
  have e : pre ++ (l :: ls) ++ post = pre ++ l :: (ls ++ post) := by simp
  have hat : c.at_.getD c.top z48 = l := by rw [h4, ← h5, e, get_mid]
  have c0 := cold_nonneg hl.tail.fits
  have hc' := hc
  simp only [cold] at hc'
  unfold C.melt
  simp only [hat, melt1, Int.add_zero]
  split
  · refine ⟨h1, by simpa using h2, h3, pre, post, ?_, h5, by simpa using h6⟩
    show c.at_.set c.top _ = _
    rw [h4, ← h5, e, set_mid, wr (l.f2 - 1) (by omega)]
    simp
  · exact c_lose h hl (by omega) (by omega) ho hw hc
theorem c_vanish {c : C} {n : Nat} {l : Ly} {ls : List Ly} {o t : Int} (h : St c n (l :: ls) o t) (hl : Live (l :: ls)) (ho : 0 ≤ o) (ht : 0 ≤ t ∧ t ≤ 549755813888) (hw : water (l :: ls) + o ≤ 549755813888) (hc : cold (l :: ls) ≤ 549755813888) :
    St c.vanish n (vanish1 (l :: ls)).1 (o + (vanish1 (l :: ls)).2) (t + 1) := by
  obtain ⟨h1, h2, h3, r⟩ := c_lose h hl (Int.le_refl 0) (by omega) ho hw hc
  unfold C.vanish
  refine ⟨h1, h2, ?_, r⟩
  show wrap64 (c.taken + 1) = _
  rw [h.2.2.1, wr _ (by omega)]
theorem c_times {F : C → C} {f : List Ly → List Ly × Int} {d : Int} (hd : 0 ≤ d ∧ d ≤ 1) (hf : Round f d)
    (hF : ∀ {c : C} {n : Nat} {l : Ly} {ls : List Ly} {o t : Int}, St c n (l :: ls) o t → Live (l :: ls) → 0 ≤ o → 0 ≤ t → t ≤ 549755813888 → water (l :: ls) + o ≤ 549755813888 → cold (l :: ls) ≤ 549755813888 → St (F c) n (f (l :: ls)).1 (o + (f (l :: ls)).2) (t + d)) :
    ∀ (k : Nat) {c : C} {n : Nat} {L : List Ly} {o t : Int}, St c n L o t → Live L → 0 ≤ o → 0 ≤ t → t + (k : Int) ≤ 549755813888 → water L + o ≤ 549755813888 → cold L ≤ 549755813888 →
      St (C.times F k c) n (times f k L).1 (o + (times f k L).2.1) (t + d * (times f k L).2.2) := by
  intro k
  induction k with
  | zero => intro c n L o t h _ _ _ _ _ _; simpa [C.times, times] using h
  | succ k ih =>
    intro c n L o t h hl ho ht htk hw hc
    obtain ⟨h1, h2, h3, pre, post, h4, h5, h6⟩ := id h
    cases L with
    | nil =>
      simp only [List.length_nil] at h6
      simp only [C.times, times]
      rw [if_pos (by omega)]
      simpa using h
    | cons l ls =>
      simp only [List.length_cons] at h6
      simp only [C.times, times]
      rw [if_neg (by omega)]
      have hr := hF h hl ho ht (by omega) hw hc
      obtain ⟨q1, q2⟩ := hf.live hl
      have q3 := hf.water hl
      have q4 := hf.cold hl
      have := ih hr q1 (by omega) (by omega) (by push_cast at htk; omega) (by omega) (by omega)
      have e : o + (f (l :: ls)).2 + (times f k (f (l :: ls)).1).2.1 = o + ((f (l :: ls)).2 + (times f k (f (l :: ls)).1).2.1) := by omega
      have e' : t + d + d * (times f k (f (l :: ls)).1).2.2 = t + d * (1 + (times f k (f (l :: ls)).1).2.2) := by rw [Int.mul_add, Int.mul_one]; omega
      rw [e, e'] at this
      exact this
end Go.Proofs.YtpldcikmlpegpaaDoor.Plain
end
section
namespace Go.Proofs.YtpldcikmlpegpaaDoor.Plain
open Go.RowKit Go.Proofs.YtpldcikmlpegpaaDoor.PB Go.Proofs.YtpldcikmlpegpaaDoor.Col Go.Proofs.YtpldcikmlpegpaaDoorW.PrintWords Go.Proofs.YtpldcikmlpegpaaDoorW.PrintMore
theorem freezeAt_freezes : ∀ (L pre post : List Ly) (m : Int), Fits L → 0 ≤ m → m ≤ 549755813888 → water L ≤ 549755813888 →
    freezeAt L.length (pre ++ L ++ post) pre.length m = (pre ++ (freezes L m).1 ++ post, (freezes L m).2) := by
  intro L
  induction L with
  | nil => intro pre post m _ _ _ _; rfl
  | cons l ls ih =>
    intro pre post m hf hm hmm hw
    have w0 := water_nonneg hf.tail
    simp only [water] at hw
    obtain ⟨a, b, c, d⟩ := hf.head
    simp only [List.length_cons, freezeAt, freezes]
    have e : pre ++ (l :: ls) ++ post = pre ++ l :: (ls ++ post) := by simp
    rw [e, get_mid, set_mid, mn_min, wr (l.f0 + min m l.f1) (by omega), wr (l.f1 - min m l.f1) (by omega), wr (m - min m l.f1) (by omega)]
    have e2 : pre ++ (⟨l.f0 + min m l.f1, l.f1 - min m l.f1, l.f2⟩ : Ly) :: (ls ++ post) = (pre ++ [⟨l.f0 + min m l.f1, l.f1 - min m l.f1, l.f2⟩]) ++ ls ++ post := by simp
    have e3 : pre.length + 1 = (pre ++ [(⟨l.f0 + min m l.f1, l.f1 - min m l.f1, l.f2⟩ : Ly)]).length := by simp
    rw [e2, e3, ih _ post _ hf.tail (by omega) (by omega) (by omega)]
    simp
theorem c_freeze {c : C} {n : Nat} {L : List Ly} {o t m : Int} (h : St c n L o t) (hl : Live L) (hm : 0 ≤ m) (hmm : m ≤ 549755813888) (hw : water L ≤ 549755813888) (hc : cold L ≤ 549755813888) : St (c.freeze m) n (freeze L m) o t := by
  obtain ⟨h1, h2, h3, pre, post, h4, h5, h6⟩ := id h
  have hf := freezeAt_freezes L pre post m hl.fits hm hmm hw
  have hr : freezeAt (c.n - c.top) c.at_ c.top m = (pre ++ (freezes L m).1 ++ post, (freezes L m).2) := by
    rw [h4, ← h5, show c.n - pre.length = L.length by omega]
    exact hf
  obtain ⟨k1, k2, k3, k4, k5, k6⟩ := freezes_fit hl hm
  unfold C.freeze
  simp only [hr]
  cases hL : (freezes L m).1 with
  | nil =>
    have : L.length = 0 := by rw [hL] at k6; simpa using k6.symm
    rw [if_neg (by omega)]
    refine ⟨h1, h2, h3, pre, post, ?_, h5, ?_⟩
    · show pre ++ [] ++ post = _
      simp [freeze, hL, chill]
    · simp [freeze, hL, chill]; omega
  | cons x xs =>
    have hlen : L.length = xs.length + 1 := by rw [hL] at k6; simpa using k6.symm
    rw [if_pos (by omega)]
    have e : pre ++ (x :: xs) ++ post = pre ++ x :: (xs ++ post) := by simp
    have hx : cold (x :: xs) ≤ 549755813888 := by rw [← hL, k5]; exact hc
    have xl : Live (x :: xs) := by rw [← hL]; exact k1
    have c0 := cold_nonneg xl.tail.fits
    obtain ⟨a, b, cc, d⟩ := xl.head.1
    simp only [cold] at hx
    refine ⟨h1, h2, h3, pre, post, ?_, h5, ?_⟩
    · show (pre ++ (x :: xs) ++ post).set c.top _ = _
      rw [e, ← h5, get_mid, set_mid, wr (x.f2 + _) (by omega)]
      simp [freeze, hL, chill]
    · simp only [freeze, hL, chill, List.length_cons]
      omega
theorem c_rain {c : C} {n : Nat} {L : List Ly} {o t m : Int} (h : St c n L o t) (hl : Live L) (ho : 0 ≤ o) (hm : 0 ≤ m) (hw : water L + m + o ≤ 549755813888) (hc : cold L ≤ 549755813888) : St (c.rain m) n (flow L m).1 (o + (flow L m).2) t := by
  obtain ⟨h1, h2, h3, pre, post, h4, h5, h6⟩ := id h
  have hf := flowAt_flow L pre post m hl.fits hm (by omega) (by omega)
  have hr : flowAt (c.n - c.top) c.at_ c.top m = (pre ++ (flow L m).1 ++ post, (flow L m).2) := by
    rw [h4, ← h5, show c.n - pre.length = L.length by omega]
    exact hf
  have k1 := flow_fit hl.fits hm
  have k2 := flow_water L m
  have k3 := water_nonneg k1.1
  have k4 := flow_length L m
  unfold C.rain
  simp only [hr]
  refine ⟨h1, ?_, h3, pre, post, rfl, h5, ?_⟩
  · show wrap64 (c.out + _) = _
    rw [h2, wr _ (by omega)]
  · show c.top + _ = _
    omega
def StepOk (k m cd : Int) : Prop := (1 ≤ k ∧ k ≤ 6) ∧ (0 ≤ m ∧ m ≤ 65536) ∧ (0 ≤ cd ∧ cd ≤ if k = 1 then 65536 else 0)
instance (k m cd : Int) : Decidable (StepOk k m cd) := inferInstanceAs (Decidable (_ ∧ _))
def doStep (L : List Ly) (k m cd : Int) : List Ly × Int :=
  if k = 1 then (if 0 < m then (⟨m, 0, cd⟩ :: L, 0) else (L, 0)) else if k = 2 then flow L m
  else if k = 3 then ((times melt1 m.toNat L).1, (times melt1 m.toNat L).2.1)
  else if k = 4 then (freeze L m, 0) else ((times vanish1 m.toNat L).1, (times vanish1 m.toNat L).2.1)
def stepE (k m cd : Int) : Int := if StepOk k m cd then 0 else 21
def applyP (L : List Ly) (k m cd : Int) : List Ly × Int × Int :=
  if Valid L then (if StepOk k m cd then (if Valid (doStep L k m cd).1 then ((doStep L k m cd).1, (doStep L k m cd).2, 0) else ([], 0, 2)) else ([], 0, 21)) else ([], 0, 20)
theorem step_eq {j : Nat} (k m cd : Int) : pack_CheckStep.f (j + 1) k m cd = some (stepE k m cd) := by
  unfold pack_CheckStep.f stepE
  simp only [pack_CheckStep.j0, from_eq, Option.bind_some, decide_eq_true_eq]
  by_cases h1 : 1 ≤ k ∧ k ≤ 6
  · by_cases h2 : 0 ≤ m ∧ m ≤ 65536
    · by_cases hk : k = 1
      · by_cases h3 : 0 ≤ cd ∧ cd ≤ 65536
        · rw [if_pos hk, if_pos h1, if_pos h2, if_pos h3, if_pos (show StepOk k m cd from ⟨h1, h2, by rw [if_pos hk]; exact h3⟩)]
        · rw [if_pos hk, if_pos h1, if_pos h2, if_neg h3, if_neg (fun h : StepOk k m cd => h3 (by have := h.2.2; rw [if_pos hk] at this; exact this))]
      · by_cases h3 : 0 ≤ cd ∧ cd ≤ 0
        · rw [if_neg hk, if_pos h1, if_pos h2, if_pos h3, if_pos (show StepOk k m cd from ⟨h1, h2, by rw [if_neg hk]; exact h3⟩)]
        · rw [if_neg hk, if_pos h1, if_pos h2, if_neg h3, if_neg (fun h : StepOk k m cd => h3 (by have := h.2.2; rw [if_neg hk] at this; exact this))]
    · rw [if_neg (fun h : StepOk k m cd => h2 h.2.1)]
      split <;> rfl
  · rw [if_neg (fun h : StepOk k m cd => h1 h.1)]
    split <;> rfl
theorem Valid.bounds {L : List Ly} (h : Valid L) : water L + 0 ≤ 549755813888 ∧ cold L ≤ 549755813888 := by
  obtain ⟨_, _, a, b⟩ := h
  omega
theorem step_st {L : List Ly} {k m cd : Int} (hv : Valid L) (hs : StepOk k m cd) : ∃ t, St ((C.of L).step k m cd) (L.length + 1) (doStep L k m cd).1 (doStep L k m cd).2 t := by
  have h0 := st_of L
  obtain ⟨b1, b2⟩ := hv.bounds
  have hl := hv.live
  obtain ⟨hk, hm, hc⟩ := hs
  obtain ⟨_, _, v1, v2⟩ := id hv
  unfold C.step doStep
  by_cases k1 : k = 1
  · rw [if_pos k1, if_pos k1]
    split
    · refine ⟨0, rfl, rfl, rfl, [], List.replicate (64 - L.length) z48, rfl, rfl, ?_⟩
      show 0 + (L.length + 1) = _
      omega
    · exact ⟨0, h0⟩
  · rw [if_neg k1, if_neg k1]
    by_cases k2 : k = 2
    · rw [if_pos k2, if_pos k2]
      have := c_rain h0 hl (Int.le_refl 0) hm.1 (by omega) b2
      exact ⟨0, by simpa using this⟩
    · rw [if_neg k2, if_neg k2]
      by_cases k3 : k = 3
      · rw [if_pos k3, if_pos k3]
        have := c_times (F := C.melt) (d := 0) (by omega) melt_round (fun h hl ho _ _ hw hc => c_melt h hl ho hw hc) m.toNat h0 hl (Int.le_refl 0) (Int.le_refl 0) (by omega) b1 b2
        exact ⟨_, by simpa using this⟩
      · rw [if_neg k3, if_neg k3]
        by_cases k4 : k = 4
        · rw [if_pos k4, if_pos k4]
          exact ⟨0, c_freeze h0 hl hm.1 (by omega) (by omega) b2⟩
        · rw [if_neg k4, if_neg k4, if_pos (by omega)]
          have := c_times (F := C.vanish) (d := 1) (by omega) vanish_round (fun h hl ho ht ht2 hw hc => c_vanish h hl ho ⟨ht, ht2⟩ hw hc) m.toNat h0 hl (Int.le_refl 0) (Int.le_refl 0) (by omega) b1 b2
          exact ⟨_, by simpa using this⟩
theorem apply_eq (L : List Ly) (k m cd : Int) : pack_Apply.f L k m cd = some (applyP L k m cd) := by
  unfold pack_Apply.f applyP
  rw [check_eq (by omega), step_eq (j := 4)]
  simp only [Option.bind_some]
  by_cases hv : Valid L
  · rw [checkE_pos hv, if_pos rfl, if_pos hv]
    unfold stepE
    by_cases hs : StepOk k m cd
    · obtain ⟨t, hst⟩ := step_st hv hs
      rw [if_pos hs, if_pos rfl, if_pos hs, check_eq (by omega), hst.live, hst.2.1]
      simp only [Option.bind_some]
      by_cases hw : Valid (doStep L k m cd).1
      · rw [checkE_pos hw, if_pos rfl, if_pos hw]
      · rw [checkE_neg hw, if_neg (by omega), if_neg hw]
    · rw [if_neg hs, if_neg (by omega), if_neg hs]
  · rw [checkE_neg hv, if_neg (by omega), if_neg hv]
end Go.Proofs.YtpldcikmlpegpaaDoor.Plain
end
section
namespace Go.Proofs.YtpldcikmlpegpaaDoor.Plain
open Go.RowKit Go.Proofs.YtpldcikmlpegpaaDoor.PB
set_option maxRecDepth 100000 in
theorem sane_eq200 : snowlinelaw02_sane.f 200 = some true := by kernel_rfl
end Go.Proofs.YtpldcikmlpegpaaDoor.Plain
end
section
namespace Go.Proofs.YtpldcikmlpegpaaDoor.Plain
open Go.RowKit Go.Proofs.YtpldcikmlpegpaaDoor.PB Go.Proofs.YtpldcikmlpegpaaDoor.Col Go.Proofs.YtpldcikmlpegpaaDoorW.PrintWords Go.Proofs.YtpldcikmlpegpaaDoorW.PrintMore
theorem sane_eq : ∀ (k : Nat), 200 ≤ k → snowlinelaw02_sane.f k = some true := by
  intro k hk
  induction k with
  | zero => omega
  | succ k ih =>
    by_cases h : k + 1 = 200
    · rw [h]; exact sane_eq200
    · exact snowlinelaw02_sane.mono k _ (ih (by omega))
def room (l : Ly) : Int := l.f2 - l.f1 + (l.f0 + l.f2) / 20
def ready : List Ly → Int
  | [] => 0
  | l :: ls => room l + ready ls
theorem room_bound {l : Ly} (h : Fit l) : 0 ≤ room l ∧ room l ≤ 2 * l.f2 + l.f0 := by
  obtain ⟨a, b, c, d⟩ := h
  unfold room
  omega
theorem ready_loop (ls : List Ly) (hr : Rights ls) (hl : ls.length ≤ 64) : ∀ (d k i : Nat) (s : Int), i + d = ls.length → d < k → 0 ≤ s → s ≤ 262144 * (i : Int) →
    pack_Ready.l0 k s ls (ls.length : Int) (i : Int) = some (s + ready (ls.drop i), 0) := by
  intro d
  induction d with
  | zero =>
    intro k i s hi hk _ _
    obtain ⟨k, rfl⟩ : ∃ j, k = j + 1 := ⟨k - 1, by omega⟩
    unfold pack_Ready.l0
    rw [if_neg (by omega), List.drop_eq_nil_of_le (by omega)]
    simp [ready]
  | succ d ih =>
    intro k i s hi hk h0 h1
    obtain ⟨k, rfl⟩ : ∃ j, k = j + 1 := ⟨k - 1, by omega⟩
    have hm : Right (rd_T48 ls (i : Int)) := hr _ (by
      have : rd_T48 ls (i : Int) ∈ ls.drop i := by rw [rd_drop (by omega)]; exact List.mem_cons_self
      exact List.mem_of_mem_drop this)
    have hrb := room_bound hm.live.1
    obtain ⟨a, b, cc, dd, e, f, g⟩ := hm
    unfold pack_Ready.l0
    rw [if_pos (by omega), if_pos (by omega), if_pos (by omega)]
    rw [rd_drop (show i < ls.length by omega)]
    simp only [ready, pack_hold.f, Option.bind_some]
    have h9 : 0 ≤ (rd_T48 ls (i : Int)).f0 + (rd_T48 ls (i : Int)).f2 := by omega
    rw [wr ((rd_T48 ls (i : Int)).f0 + _) (by omega), Int.tdiv_eq_ediv_of_nonneg h9, wr (((rd_T48 ls (i : Int)).f0 + _) / 20) (by omega), wr ((rd_T48 ls (i : Int)).f2 - _) (by omega), wr (s + _) (by omega), wr (s + _ + _) (by omega), wr ((i : Int) + 1) (by omega)]
    have := ih k (i + 1) (s + ((rd_T48 ls (i : Int)).f2 - (rd_T48 ls (i : Int)).f1) + ((rd_T48 ls (i : Int)).f0 + (rd_T48 ls (i : Int)).f2) / 20) (by omega) (by omega) (by unfold room at hrb; omega) (by unfold room at hrb; push_cast; omega)
    push_cast at this
    rw [this]
    unfold room
    congr 2
    omega
theorem ready_eq {k : Nat} (hk : 130 ≤ k) (L : List Ly) : pack_Ready.f k L = some (if Valid L then (ready L, 0) else (0, 20)) := by
  unfold pack_Ready.f
  rw [check_eq hk]
  simp only [Option.bind_some]
  by_cases hv : Valid L
  · rw [checkE_pos hv, if_pos rfl, if_pos hv]
    have := ready_loop L hv.2.1 hv.1 L.length k 0 0 (by omega) (by have := hv.1; omega) (by omega) (by omega)
    simpa using this
  · rw [checkE_neg hv, if_neg (by omega), if_neg hv]
end Go.Proofs.YtpldcikmlpegpaaDoor.Plain
end
section
namespace Go.Proofs.YtpldcikmlpegpaaDoor.PurePackParts
open Go.RowKit Go.Proofs.YtpldcikmlpegpaaDoor.PB Go.Proofs.YtpldcikmlpegpaaDoor.Open Go.Proofs.YtpldcikmlpegpaaDoor.Plain
theorem twice {L : List Ly} {k a b : Int} (hv : Valid L) (hk : 2 ≤ k) (ha : 0 ≤ a) (hb : 0 ≤ b) :
    doStep L k (a + b) 0 = ((doStep (doStep L k a 0).1 k b 0).1, (doStep L k a 0).2 + (doStep (doStep L k a 0).1 k b 0).2) := by
  have hl := hv.live
  have e : (a + b).toNat = a.toNat + b.toNat := by omega
  unfold doStep
  simp only [if_neg (show ¬ k = 1 by omega)]
  by_cases k2 : k = 2
  · simp only [if_pos k2]
    exact flow_add' ha hb hl.fits
  · simp only [if_neg k2]
    by_cases k3 : k = 3
    · simp only [if_pos k3]
      rw [e, times_add]
    · simp only [if_neg k3]
      by_cases k4 : k = 4
      · simp only [if_pos k4]
        rw [freeze_add hl ha hb]
        rfl
      · simp only [if_neg k4]
        rw [e, times_add]
theorem apply_ok {L : List Ly} {k m cd : Int} (h : (applyP L k m cd).2.2 = 0) : Valid L ∧ StepOk k m cd ∧ Valid (doStep L k m cd).1 ∧ applyP L k m cd = ((doStep L k m cd).1, (doStep L k m cd).2, 0) := by
  unfold applyP at h ⊢
  by_cases hv : Valid L
  · rw [if_pos hv] at h ⊢
    by_cases hs : StepOk k m cd
    · rw [if_pos hs] at h ⊢
      by_cases hw : Valid (doStep L k m cd).1
      · rw [if_pos hw]
        exact ⟨hv, hs, hw, rfl⟩
      · rw [if_neg hw] at h
        simp at h
    · rw [if_neg hs] at h
      simp at h
  · rw [if_neg hv] at h
    simp at h
theorem out_bound {L : List Ly} {k m cd : Int} (hv : Valid L) (hs : StepOk k m cd) : 0 ≤ (doStep L k m cd).2 ∧ (doStep L k m cd).2 ≤ 131072 := by
  obtain ⟨hk, hm, hc⟩ := hs
  obtain ⟨_, _, v1, v2⟩ := id hv
  have hl := hv.live
  unfold doStep
  split
  · split <;> exact ⟨Int.le_refl _, by dsimp only; omega⟩
  · split
    · have a := flow_fit hl.fits hm.1
      have b := flow_water L m
      have c := water_nonneg a.1
      exact ⟨a.2, by omega⟩
    · split
      · obtain ⟨a1, a2, a3, a4, a5, a6, a7, a8⟩ := times_keeps melt_round m.toNat hl
        have c := water_nonneg a1.fits
        exact ⟨a2, by dsimp only; omega⟩
      · split
        · exact ⟨Int.le_refl _, by dsimp only; omega⟩
        · obtain ⟨a1, a2, a3, a4, a5, a6, a7, a8⟩ := times_keeps vanish_round m.toNat hl
          have c := water_nonneg a1.fits
          exact ⟨a2, by dsimp only; omega⟩
theorem pure (l : List Ly) (k a b : Int) (_ : ∀ x ∈ l, LyI x) (_ : i64 k) (_ : i64 a) (_ : i64 b) : ∃ n, snowlinelaw02_PackParts.f n l k a b = some true := by
  refine ⟨201, ?_⟩
  unfold snowlinelaw02_PackParts.f
  rw [sane_eq 201 (by omega)]
  simp only [Option.bind_some, if_true]
  by_cases k1 : k < 2
  · rw [if_pos k1]; rfl
  rw [if_neg k1]
  by_cases k2 : k > 6
  · rw [if_pos k2]; rfl
  rw [if_neg k2]
  by_cases a1 : a < 0
  · rw [if_pos a1]; rfl
  rw [if_neg a1]
  by_cases a2 : a > 65536
  · rw [if_pos a2]; rfl
  rw [if_neg a2]
  by_cases b1 : b < 0
  · rw [if_pos b1]; rfl
  rw [if_neg b1]
  by_cases b2 : b > 65536
  · rw [decide_eq_true b2]; rfl
  rw [decide_eq_false b2]
  simp only [snowlinelaw02_PackParts.j0, apply_eq, Option.bind_some]
  rw [if_neg (by simp), wr (a + b) (by omega)]
  by_cases h1 : (applyP l k a 0).2.2 = 0
  · rw [if_pos h1]
    by_cases h2 : (applyP (applyP l k a 0).1 k b 0).2.2 = 0
    · rw [if_pos h2]
      by_cases h3 : (applyP l k (a + b) 0).2.2 = 0
      · rw [if_pos h3]
        obtain ⟨v1, s1, w1, e1⟩ := apply_ok h1
        rw [e1] at h2 ⊢
        obtain ⟨v2, s2, w2, e2⟩ := apply_ok h2
        obtain ⟨v3, s3, w3, e3⟩ := apply_ok h3
        have ht := twice (k := k) (a := a) (b := b) v1 (by omega) (by omega) (by omega)
        have o1 := out_bound v1 s1
        have o2 := out_bound v2 s2
        dsimp only at e2 h2 w2 o2 ⊢
        rw [e2, e3]
        dsimp only
        rw [same_eq (by have := w2.1; omega) (by have := w2.1; omega)]
        rw [ht]
        dsimp only
        rw [decide_eq_true rfl]
        simp only [Option.bind_some, if_true]
        rw [wr _ (by omega)]
        simp
      · rw [if_neg h3]
    · rw [if_neg h2]
  · rw [if_neg h1]
end Go.Proofs.YtpldcikmlpegpaaDoor.PurePackParts
end
section
namespace Go.Proofs.YtpldcikmlpegpaaDoor.packParts
open Go.ChangeShapes Go.WideShapes Go.ChangeAt Go.RowKit Go.Proofs.YtpldcikmlpegpaaDoor.Open Go.Proofs.YtpldcikmlpegpaaDoor.PB
set_option linter.unusedVariables false
set_option maxRecDepth 100000 in
theorem lifted (os : Os) (started : os.Started) (H : Type) (enc : TypeId × Value → H) :
    ReturnsInHanded {} Tryd.checked os 5 .any (fun w args => (Rows.packPartsSpec.pre enc Tryd.prog Tryd.f5 [] false w args ∧ laidMetH Tryd.prog laid3 w) ∧ sizedMet enc Tryd.prog Tryd.f5 (OpenSpec.ofChange Rows.packPartsSpec) false w args)
      (Rows.packPartsSpec.post enc Tryd.prog Tryd.f5 false true false false) := by
  refine returnsInHanded_of_change_and (C := Tryd.checked) (X := fun w _ => laidMetH Tryd.prog laid3 w) (fun _ _ _ hh h => h.of_heap hh) own started (by kernel_rfl) Tryd.func5
    (ChangeSpec.witness_shaped (enc := enc) (C := Tryd.checked) (os := os) (X := fun w _ => laidMetH Tryd.prog laid3 w) false (World.doorLaid Tryd.prog 400 os) #[.agg #[.slice none 0 0], .int .i64 0, .int .i64 0, .int .i64 0] 8 rfl (World.shaped_of_RefB (by kernel_rfl) (by kernel_rfl)) (by kernel_rfl) (by kernel_rfl) (by kernel_rfl) (door_met os _)) ?_
  intro W base args ds gs before hval0 hW _ _ hL _
  have hval : ∀ (j : Nat) t v, Tryd.f5.params[j]? = some t → args[j]? = some v → Value.okWide Tryd.prog W .any base t v := hval0
  have hW' := hW
  obtain ⟨p, q, hA0, hV, rfl, hfz, hnd⟩ := hW
  have hA : DataW.TrodAll enc Tryd.prog W 0 (fun _ => true) true Tryd.f5.params.toList args.toList ds p := hA0
  rw [Tryd.params5] at hA hval
  obtain ⟨v0, vs0, d0, ds0, p0, q0, hargs, rfl, rfl, h0, r0⟩ := trodAll_cons hA
  obtain ⟨v1, vs1, d1, ds1, p1, q1, rfl, rfl, rfl, h1, r1⟩ := trodAll_cons r0
  obtain ⟨v2, vs2, d2, ds2, p2, q2, rfl, rfl, rfl, h2, r2⟩ := trodAll_cons r1
  obtain ⟨v3, vs3, d3, ds3, p3, q3, rfl, rfl, rfl, h3, r3⟩ := trodAll_cons r2
  obtain ⟨rfl, rfl, rfl⟩ := trodAll_nil r3
  obtain rfl : args = #[v0, v1, v2, v3] := by cases args; simp_all
  obtain ⟨rfl, rfl⟩ := trodVars_none hV
  have k0 := h0
  have lt0 : ∀ x ∈ p0, x.block < W.heap.size := by obtain ⟨m, hm⟩ := k0; exact DataW.trod_lt m _ _ _ hm
  obtain ⟨A0, c0, l0, rfl, hl0, hC0, hi0⟩ := open_pack (hval 0 24 v0 rfl rfl) h0
  have k1 := h1
  have lt1 : ∀ x ∈ p1, x.block < W.heap.size := by obtain ⟨m, hm⟩ := k1; exact DataW.trod_lt m _ _ _ hm
  obtain ⟨a1, rfl, _, _, w1⟩ := open_int Tryd.underlying3 (hval 1 3 v1 rfl rfl) h1
  have k2 := h2
  have lt2 : ∀ x ∈ p2, x.block < W.heap.size := by obtain ⟨m, hm⟩ := k2; exact DataW.trod_lt m _ _ _ hm
  obtain ⟨a2, rfl, _, _, w2⟩ := open_int Tryd.underlying3 (hval 2 3 v2 rfl rfl) h2
  have k3 := h3
  have lt3 : ∀ x ∈ p3, x.block < W.heap.size := by obtain ⟨m, hm⟩ := k3; exact DataW.trod_lt m _ _ _ hm
  obtain ⟨a3, rfl, _, _, w3⟩ := open_int Tryd.underlying3 (hval 3 3 v3 rfl rfl) h3
  clear hA0 hval0
  obtain ⟨k, h⟩ := PurePackParts.pure l0 a1 a2 a3 hi0 w1 w2 w3
  refine (snowlinelaw02_PackParts.calls k A0 c0 l0 a1 a2 a3 true W hC0 hl0 (glob_of hL) h).mono ?_
  rintro e W' ⟨rfl, bel⟩
  exact ⟨_, rfl, _, _, _, [], _, [], hW', trodAll_mk1 (shut_bool Tryd.underlying4 _), (trodAll_cons_mk (Below.trod laidOut (by kernel_rfl) (of_decide_eq_true (by kernel_rfl)) k0 bel lt0) (trodAll_cons_mk (Below.trod laidOut (by kernel_rfl) (of_decide_eq_true (by kernel_rfl)) k1 bel lt1) (trodAll_cons_mk (Below.trod laidOut (by kernel_rfl) (of_decide_eq_true (by kernel_rfl)) k2 bel lt2) (trodAll_cons_mk (Below.trod laidOut (by kernel_rfl) (of_decide_eq_true (by kernel_rfl)) k3 bel lt3) trodAll_mk0)))), rfl, bel.frame _, fun h => by cases h⟩
theorem over : Rows.PackPartsSaid :=
  OpenClaim.holds_of_wide 5 Tryd.f5 rfl rfl rfl rfl rfl rfl rfl ⟨rfl, rfl, rfl, rfl, rfl⟩ rfl rfl rfl rfl rfl (by kernel_rfl) Tryd.func5 (by kernel_rfl)
    (of_decide_eq_true (by kernel_rfl)) (by unfold Func.isWrapper; first | (rw [if_pos (by decide +kernel)]; kernel_rfl) | (rw [if_neg (by decide +kernel)]; exact ⟨rfl, rfl⟩))
    (fun os started H enc _ => lifted os started H enc)
theorem card_holds : Rows.PackPartsCardSaid :=
  Claim7.holds_tied_plain_at .later [] [.data, .data, .data] true (true, "e4590a7662fcc404b2e76501190c3f3756a1f45f85c3a8ba53dbb8ae7a261990") false
    over (fun _ h => by cases h) (by kernel_rfl) (fun _ h => by cases h) packParts_row_tie rfl ⟨rfl, rfl⟩ (by kernel_rfl) rfl
    (fun f fn hf hfn => by
      obtain rfl : f = 5 := Option.some.inj ((show Tryd.prog.funcNamed "snowline/snowlinelaw02.PackParts" = some 5 by kernel_rfl).symm.trans hf) |>.symm
      obtain rfl : fn = Tryd.f5 := (Option.some.inj (Tryd.func5.symm.trans hfn)).symm
      exact ⟨by kernel_rfl, fun j t ht => by
        rw [Tryd.params5] at ht
        have hm : t ∈ [24, 3, 3, 3] := by simpa using Array.mem_of_getElem? ht
        have hall : ([24, 3, 3, 3].all fun u => !Tryd.prog.wantsStandIn u) = true := by kernel_rfl
        exact (show Tryd.prog.wantsStandIn t = false by simpa using List.all_eq_true.1 hall t hm)⟩)
    (by kernel_rfl)
end Go.Proofs.YtpldcikmlpegpaaDoor.packParts
end
