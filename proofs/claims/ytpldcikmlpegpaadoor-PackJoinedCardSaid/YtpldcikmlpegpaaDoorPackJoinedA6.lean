/-
The tied card of the law PackJoined of snowlinelaw02 holds: it answers true for every pack and all two numbers, and changes nothing.
-/
import Derived.KernelRfl
import Derived.Test.YtpldcikmlpegpaaDoorTie
import Derived.Test.YtpldcikmlpegpaaDoorCards
import Derived.SevenTiedAt
import Derived.Test.YtpldcikmlpegpaaDoorPackJoinedA1
import Derived.Test.YtpldcikmlpegpaaDoorPackJoinedA2
import Derived.Test.YtpldcikmlpegpaaDoorPackJoinedA3
import Derived.Test.YtpldcikmlpegpaaDoorPackJoinedA4
import Derived.Test.YtpldcikmlpegpaaDoorPackJoinedA5
section
namespace Go.Proofs.YtpldcikmlpegpaaDoor.PB
open Go.RowKit Go.Proofs.YtpldcikmlpegpaaDoorW.PrintWords Go.Proofs.YtpldcikmlpegpaaDoorW.PrintLast Go.Proofs.YtpldcikmlpegpaaDoorW.PrintMore
attribute [local go_sem] max2_int min2_int max_two min_two max_three min_three max_four min_four   -- for this text's walks alone
set_option linter.unusedVariables false
set_option linter.unusedSimpArgs false
mutual
def snowlinelaw02_PackJoined.j0 : Nat → Int → Int → Bool → List (S48) → List (S48) → Option (Bool)
  | 0, _, _, _, _, _ => none
  | k + 1, x1, x2, x65, x517000, x523000 => if x65 = true then (some false) else (snowlinelaw02_PackJoined.l0 k x1 x2 0 0 x517000 x523000)
def snowlinelaw02_PackJoined.l0 : Nat → Int → Int → Int → Int → List (S48) → List (S48) → Option (Bool)
  | 0, _, _, _, _, _, _ => none
  | k + 1, x1, x2, x13, x14, x517000, x523000 => if x14 < (x517000.length : Int) then (if 0 ≤ x14 then (snowlinelaw02_PackJoined.l0 k x1 x2 (wrap64 ((wrap64 (x13 + ((rd_T48 x517000 x14).f2))) - ((rd_T48 x517000 x14).f1))) (wrap64 (x14 + 1)) x517000 x523000) else (none)) else (snowlinelaw02_PackJoined.l1 k x1 x2 x13 0 x517000 x523000)
def snowlinelaw02_PackJoined.l1 : Nat → Int → Int → Int → Int → List (S48) → List (S48) → Option (Bool)
  | 0, _, _, _, _, _, _ => none
  | k + 1, x1, x2, x13, x15, x517000, x523000 => if x15 < (x523000.length : Int) then (if 0 ≤ x15 then (snowlinelaw02_PackJoined.l1 k x1 x2 (wrap64 ((wrap64 (x13 - ((rd_T48 x523000 x15).f2))) + ((rd_T48 x523000 x15).f1))) (wrap64 (x15 + 1)) x517000 x523000) else (none)) else (if x13 = 0 then (if x2 > x1 then (some true) else ((pack_Joined.f x523000 x2).bind fun bt531 => ((pack_Joined.f x517000 x2).bind fun bt536 => (if bt531.2 = bt536.2 then ((snowlineref02_Same.f k bt531.1 bt536.1).bind fun t541 => (some t541)) else (some false))))) else (some false))
end
def snowlinelaw02_PackJoined.f (k : Nat) (l0_0 : List (S48)) (a1 : Int) (a2 : Int) : Option (Bool) := (snowlinelaw02_sane.f k).bind fun t517 => (if t517 = true then ((pack_Joined.f l0_0 a1).bind fun bt518 => (if bt518.2 = 0 then ((pack_Water.f k l0_0).bind fun bt523 => ((pack_Water.f k bt518.1).bind fun bt525 => (if bt523.2 = 0 then (if bt525.2 = 0 then (if bt523.1 = bt525.1 then (snowlinelaw02_PackJoined.j0 k a1 a2 ((bt518.1.length : Int) != (mn a1 (l0_0.length : Int))) l0_0 bt518.1) else (snowlinelaw02_PackJoined.j0 k a1 a2 true l0_0 bt518.1)) else (snowlinelaw02_PackJoined.j0 k a1 a2 true l0_0 bt518.1)) else (snowlinelaw02_PackJoined.j0 k a1 a2 true l0_0 bt518.1)))) else (some ((bt518.1.length : Int) == 0)))) else (some false))
set_option maxHeartbeats 8000000 in
set_option maxRecDepth 100000 in
theorem snowlinelaw02_PackJoined.calls (k : Nat) (A0_0 : Option Addr) (c0_0 : Nat) (l0_0 : List (S48)) (a1 : Int) (a2 : Int) (r : Bool) (w : World) (hr0_0 : Kd.C k48 w A0_0 l0_0.length l0_0) (hc0_0 : l0_0.length ≤ c0_0) (hG : Glob w) (h : snowlinelaw02_PackJoined.f k l0_0 a1 a2 = some r) :
    Calls Tryd.prog 8 #[.agg #[.slice A0_0 l0_0.length c0_0], .int .i64 a1, .int .i64 a2] w fun e w' => e = .returned (.bool r) ∧ Below w.heap.size w w' := by
  have hu24 := Tryd.underlying24
  have HR0_0 := Aside0.mk hr0_0
  have HC0_0 := Aside0.mk hc0_0
  clear hr0_0 hc0_0
  have HB := Aside0.mk (Below.refl w.heap.size w)
  have HGl := Aside0.mk hG
  clear hG
  have H : ((snowlinelaw02_sane.f k).bind fun t517 => (if t517 = true then ((pack_Joined.f l0_0 a1).bind fun bt518 => (if bt518.2 = 0 then ((pack_Water.f k l0_0).bind fun bt523 => ((pack_Water.f k bt518.1).bind fun bt525 => (if bt523.2 = 0 then (if bt525.2 = 0 then (if bt523.1 = bt525.1 then (snowlinelaw02_PackJoined.j0 k a1 a2 ((bt518.1.length : Int) != (mn a1 (l0_0.length : Int))) l0_0 bt518.1) else (snowlinelaw02_PackJoined.j0 k a1 a2 true l0_0 bt518.1)) else (snowlinelaw02_PackJoined.j0 k a1 a2 true l0_0 bt518.1)) else (snowlinelaw02_PackJoined.j0 k a1 a2 true l0_0 bt518.1)))) else (some ((bt518.1.length : Int) == 0)))) else (some false))) = some r := h
  clear h
  replace H := Option.bind_eq_some_iff.mp H
  obtain ⟨t517, A40, H⟩ := H
  replace H : (if t517 = true then ((pack_Joined.f l0_0 a1).bind fun bt518 => (if bt518.2 = 0 then ((pack_Water.f k l0_0).bind fun bt523 => ((pack_Water.f k bt518.1).bind fun bt525 => (if bt523.2 = 0 then (if bt525.2 = 0 then (if bt523.1 = bt525.1 then (snowlinelaw02_PackJoined.j0 k a1 a2 ((bt518.1.length : Int) != (mn a1 (l0_0.length : Int))) l0_0 bt518.1) else (snowlinelaw02_PackJoined.j0 k a1 a2 true l0_0 bt518.1)) else (snowlinelaw02_PackJoined.j0 k a1 a2 true l0_0 bt518.1)) else (snowlinelaw02_PackJoined.j0 k a1 a2 true l0_0 bt518.1)))) else (some ((bt518.1.length : Int) == 0)))) else (some false)) = some r := H
  have A4 := Aside0.mk A40
  clear A40
  by_cases c5 : t517 = true
  · subst c5
    have H1 : ((pack_Joined.f l0_0 a1).bind fun bt518 => (if bt518.2 = 0 then ((pack_Water.f k l0_0).bind fun bt523 => ((pack_Water.f k bt518.1).bind fun bt525 => (if bt523.2 = 0 then (if bt525.2 = 0 then (if bt523.1 = bt525.1 then (snowlinelaw02_PackJoined.j0 k a1 a2 ((bt518.1.length : Int) != (mn a1 (l0_0.length : Int))) l0_0 bt518.1) else (snowlinelaw02_PackJoined.j0 k a1 a2 true l0_0 bt518.1)) else (snowlinelaw02_PackJoined.j0 k a1 a2 true l0_0 bt518.1)) else (snowlinelaw02_PackJoined.j0 k a1 a2 true l0_0 bt518.1)))) else (some ((bt518.1.length : Int) == 0)))) = some r := by rw [if_pos rfl] at H; exact H
    clear H
    have H := H1
    clear H1
    replace H := Option.bind_eq_some_iff.mp H
    obtain ⟨⟨t518, t521⟩, A60, H⟩ := H
    replace H : (if t521 = 0 then ((pack_Water.f k l0_0).bind fun bt523 => ((pack_Water.f k t518).bind fun bt525 => (if bt523.2 = 0 then (if bt525.2 = 0 then (if bt523.1 = bt525.1 then (snowlinelaw02_PackJoined.j0 k a1 a2 ((t518.length : Int) != (mn a1 (l0_0.length : Int))) l0_0 t518) else (snowlinelaw02_PackJoined.j0 k a1 a2 true l0_0 t518)) else (snowlinelaw02_PackJoined.j0 k a1 a2 true l0_0 t518)) else (snowlinelaw02_PackJoined.j0 k a1 a2 true l0_0 t518)))) else (some ((t518.length : Int) == 0))) = some r := H
    have A6 := Aside0.mk A60
    clear A60
    by_cases c7 : t521 = 0
    · rw [if_pos c7] at H
      have c7b0 : (t521 == 0) = true := beq_iff_eq.mpr c7
      have c7b1 : (t521 != 0) = false := bne_eq_false_iff_eq.mpr c7
      clear c7
      replace H := Option.bind_eq_some_iff.mp H
      obtain ⟨⟨t523, t524⟩, A80, H⟩ := H
      replace H : ((pack_Water.f k t518).bind fun bt525 => (if t524 = 0 then (if bt525.2 = 0 then (if t523 = bt525.1 then (snowlinelaw02_PackJoined.j0 k a1 a2 ((t518.length : Int) != (mn a1 (l0_0.length : Int))) l0_0 t518) else (snowlinelaw02_PackJoined.j0 k a1 a2 true l0_0 t518)) else (snowlinelaw02_PackJoined.j0 k a1 a2 true l0_0 t518)) else (snowlinelaw02_PackJoined.j0 k a1 a2 true l0_0 t518))) = some r := H
      have A8 := Aside0.mk A80
      clear A80
      replace H := Option.bind_eq_some_iff.mp H
      obtain ⟨⟨t525, t526⟩, A90, H⟩ := H
      replace H : (if t524 = 0 then (if t526 = 0 then (if t523 = t525 then (snowlinelaw02_PackJoined.j0 k a1 a2 ((t518.length : Int) != (mn a1 (l0_0.length : Int))) l0_0 t518) else (snowlinelaw02_PackJoined.j0 k a1 a2 true l0_0 t518)) else (snowlinelaw02_PackJoined.j0 k a1 a2 true l0_0 t518)) else (snowlinelaw02_PackJoined.j0 k a1 a2 true l0_0 t518)) = some r := H
      have A9 := Aside0.mk A90
      clear A90
      have HC10 := Aside0.mk H
      clear H
      go_enter Tryd.func8, Tryd.ntmps8
      go_upto_region 8 with (first | ((with_reducible refine gate_dst (N := 3) rfl ?_); (try (refine gate_guard (by rfl) ?_; dsimp only)); refine box_event ?hg (N := 3) ?hd (cs := #[.slice A0_0 l0_0.length c0_0]) (t := 24) ?hr ?_; (case hd => rfl); (case hg => rfl); (case hr => first | (go_simp; done) | (go_simp; rfl)); intro gb516 hg w11 hbox hb; have n0_ := Aside0.mk (below_step (by repeat (first | (with_reducible first | exact HB.out | apply below_alloc | apply pw_below_drewN | apply below_drew1) | exact HB.out)) hb); have n1_ := Aside0.mk (hbox); have n2_ := Aside0.mk ((by rw [hg]; exact (below_size (by repeat (first | (with_reducible first | exact HB.out | apply below_alloc | apply pw_below_drewN | apply below_drew1) | exact HB.out))) : w.heap.size ≤ gb516)); have n3_ := Aside0.mk ((by rw [hg]; exact (below_size (by repeat (first | (with_reducible first | exact HB.out | apply below_alloc | apply pw_below_drewN | apply below_drew1) | exact HB.out))) : w.heap.size ≤ gb516)); clear HB; have HB := n0_; have BK516 := n1_; have GW516 := n2_; have GE516 := n3_; clear n0_ n1_ n2_ n3_; clear hb hbox hg) | (go_at_call 18; (with_reducible refine (snowlinelaw02_sane.calls k  true _ ?hgl_ A4.out).mono ?_); (case hgl_ => exact HGl.out.below (by repeat (first | (with_reducible first | exact HB.out | apply below_alloc | apply pw_below_drewN | apply below_drew1 | refine below_set ?_ GE516.out) | exact HB.out)) (Nat.le_refl _)); rintro e w12 ⟨rfl, hb⟩; have n0_ := Aside0.mk (blk_below (g := gb516) (o := .cells #[.slice A0_0 l0_0.length c0_0] 24 (0, 0)) (by (with_reducible repeat (first | refine blk_drewN ?_ _ | refine blk_drew ?_ | refine blk_alloc ?_ _)); exact BK516.out) hb); have n1_ := Aside0.mk (below_step (by repeat (first | (with_reducible first | exact HB.out | apply below_alloc | apply pw_below_drewN | apply below_drew1 | refine below_set ?_ GE516.out) | exact HB.out)) hb); clear BK516; clear HB; have BK516 := n0_; have HB := n1_; clear n0_ n1_; (try clear hb); (try clear hb2); (try clear hk); (try clear hi); have hcz13_0 : w12.cell? ⟨gb516, 0, none⟩ = some (.slice A0_0 l0_0.length c0_0) := (blk_cell BK516.out 0).trans rfl; have hfz13_0 := blk_frozen BK516.out 0) | (go_at_call 29; (with_reducible refine (pack_Joined.calls _ _ l0_0 a1 t518 t521 _ ?side1 ?side2 A6.out).mono ?_); (case side1 => repeat (first | exact (Kd.C_below HR0_0.out HB.out) | (with_reducible refine Kd.C_alloc ?_ _) | (with_reducible refine Kd.C_drewN ?_ _) | (with_reducible refine Kd.C_drew ?_))); (case side2 => exact HC0_0.out); rintro e w14 ⟨v519, rfl, ho0, hb⟩; have n0_ := Aside0.mk (Kd.R_lower ho0 (below_size (by repeat (first | (with_reducible first | exact HB.out | apply below_alloc | apply pw_below_drewN | apply below_drew1 | refine below_set ?_ GE516.out) | exact HB.out)))); have n1_ := Aside0.mk (blk_below (g := gb516) (o := .cells #[.slice A0_0 l0_0.length c0_0] 24 (0, 0)) (by (with_reducible repeat (first | refine blk_drewN ?_ _ | refine blk_drew ?_ | refine blk_alloc ?_ _)); exact BK516.out) hb); have n2_ := Aside0.mk (below_step (by repeat (first | (with_reducible first | exact HB.out | apply below_alloc | apply pw_below_drewN | apply below_drew1 | refine below_set ?_ GE516.out) | exact HB.out)) hb); clear BK516; clear HB; have HO520 := n0_; have BK516 := n1_; have HB := n2_; clear n0_ n1_ n2_; (try clear hb); (try clear hb2); (try clear hk); (try clear hi); (try clear ho0)) | ((with_reducible refine gate_dst (N := 7) rfl ?_); (try (refine gate_guard (by rfl) ?_; dsimp only)); refine box_event ?hg (N := 7) ?hd (cs := #[.slice none 0 0]) (t := 24) ?hr ?_; (case hd => rfl); (case hg => rfl); (case hr => first | (go_simp; done) | (go_simp; rfl)); intro gb522 hg w15 hbox hb; have n0_ := Aside0.mk (Kd.R_below (by (with_reducible repeat (first | apply Kd.R_alloc | apply Kd.R_drewN | apply Kd.R_drew)); exact HO520.out) hb); have n1_ := Aside0.mk (blk_below (g := gb516) (o := .cells #[.slice A0_0 l0_0.length c0_0] 24 (0, 0)) (by (with_reducible repeat (first | refine blk_drewN ?_ _ | refine blk_drew ?_ | refine blk_alloc ?_ _)); exact BK516.out) hb); have n2_ := Aside0.mk (below_step (by repeat (first | (with_reducible first | exact HB.out | apply below_alloc | apply pw_below_drewN | apply below_drew1 | refine below_set ?_ GE516.out) | exact HB.out)) hb); have n3_ := Aside0.mk (hbox); have n4_ := Aside0.mk ((by rw [hg]; exact (below_size (by repeat (first | (with_reducible first | exact HB.out | apply below_alloc | apply pw_below_drewN | apply below_drew1 | refine below_set ?_ GE516.out) | exact HB.out))) : w.heap.size ≤ gb522)); have n5_ := Aside0.mk ((by rw [hg]; exact (below_size (by repeat (first | (with_reducible first | exact HB.out | apply below_alloc | apply pw_below_drewN | apply below_drew1 | refine below_set ?_ GE516.out) | exact HB.out))) : w.heap.size ≤ gb522)); have n6_ := Aside0.mk ((by rw [hg]; exact Nat.ne_of_lt (blk_lt (g := gb516) (o := .cells #[.slice A0_0 l0_0.length c0_0] 24 (0, 0)) (by (with_reducible repeat (first | refine blk_drewN ?_ _ | refine blk_drew ?_ | refine blk_alloc ?_ _)); exact BK516.out)) : gb516 ≠ gb522)); have n7_ := Aside0.mk ((by rw [hg]; exact Nat.ne_of_gt (blk_lt (g := gb516) (o := .cells #[.slice A0_0 l0_0.length c0_0] 24 (0, 0)) (by (with_reducible repeat (first | refine blk_drewN ?_ _ | refine blk_drew ?_ | refine blk_alloc ?_ _)); exact BK516.out)) : gb522 ≠ gb516)); clear HO520; clear BK516; clear HB; have HO520 := n0_; have BK516 := n1_; have HB := n2_; have BK522 := n3_; have GW522 := n4_; have GE522 := n5_; have NB516_522 := n6_; have NB522_516 := n7_; clear n0_ n1_ n2_ n3_ n4_ n5_ n6_ n7_; clear hb hbox hg; obtain ⟨Ao16, co16, eo16⟩ := Kd.R_slice HO520.out; subst eo16; have hnb17 := NB522_516.out; have hnc17 := NB516_522.out; have hcz18_0 : w15.cell? ⟨gb522, 0, none⟩ = some (.slice none 0 0) := (blk_cell BK522.out 0).trans rfl; have hfz18_0 := blk_frozen BK522.out 0; have hcz19_0 : w15.cell? ⟨gb516, 0, none⟩ = some (.slice A0_0 l0_0.length c0_0) := (blk_cell BK516.out 0).trans rfl; have hfz19_0 := blk_frozen BK516.out 0) | (go_at_call 24; (with_reducible refine (pack_Water.calls k _ _ l0_0 t523 t524 _ ?side1 ?side2 A8.out).mono ?_); (case side1 => exact Kd.C_below HR0_0.out (by repeat (first | (with_reducible first | exact HB.out | apply below_alloc | apply pw_below_drewN | apply below_drew1 | refine below_set ?_ GE516.out | refine below_set ?_ GE522.out) | exact HB.out))); (case side2 => exact HC0_0.out); rintro e w20 ⟨rfl, hb⟩; have n0_ := Aside0.mk (Kd.R_below (by (with_reducible repeat (first | apply Kd.R_alloc | apply Kd.R_drewN | apply Kd.R_drew)); exact (Kd.R_mono (Kd.R_far (p := ⟨gb522, 0, none⟩) (Kd.R_types HO520.out BK522.out (by decide)) (fun _ hk => hk.2) (.slice Ao16 t518.length co16)) (fun _ h_ => h_.1))) hb); have n1_ := Aside0.mk (blk_below (g := gb516) (o := .cells #[.slice A0_0 l0_0.length c0_0] 24 (0, 0)) (by (with_reducible repeat (first | refine blk_drewN ?_ _ | refine blk_drew ?_ | refine blk_alloc ?_ _)); refine blk_far ?_ NB516_522.out _; (with_reducible repeat (first | refine blk_drewN ?_ _ | refine blk_drew ?_ | refine blk_alloc ?_ _)); exact BK516.out) hb); have n2_ := Aside0.mk (blk_below (g := gb522) (o := .cells #[.slice Ao16 t518.length co16] 24 (0, 0)) (by (with_reducible repeat (first | refine blk_drewN ?_ _ | refine blk_drew ?_ | refine blk_alloc ?_ _)); refine blk_put (cs := #[.slice none 0 0]) ?_ 0 _ rfl; (with_reducible repeat (first | refine blk_drewN ?_ _ | refine blk_drew ?_ | refine blk_alloc ?_ _)); exact BK522.out) hb); have n3_ := Aside0.mk (below_step (by repeat (first | (with_reducible first | exact HB.out | apply below_alloc | apply pw_below_drewN | apply below_drew1 | refine below_set ?_ GE516.out | refine below_set ?_ GE522.out) | exact HB.out)) hb); clear HO520; clear BK516; clear BK522; clear HB; have HO520 := n0_; have BK516 := n1_; have BK522 := n2_; have HB := n3_; clear n0_ n1_ n2_ n3_; (try clear hb); (try clear hb2); (try clear hk); (try clear hi); have hcz21_0 : w20.cell? ⟨gb522, 0, none⟩ = some (.slice Ao16 t518.length co16) := (blk_cell BK522.out 0).trans rfl; have hfz21_0 := blk_frozen BK522.out 0) | (go_at_call 24; (with_reducible refine (pack_Water.calls k _ _ t518 t525 t526 _ ?side1 ?side2 A9.out).mono ?_); (case side1 => repeat (first | exact (Kd.R_reads' HO520.out).2.2 | (with_reducible refine Kd.C_alloc ?_ _) | (with_reducible refine Kd.C_drewN ?_ _) | (with_reducible refine Kd.C_drew ?_))); (case side2 => exact (Kd.R_reads' HO520.out).2.1); rintro e w22 ⟨rfl, hb⟩; have n0_ := Aside0.mk (Kd.R_below (by (with_reducible repeat (first | apply Kd.R_alloc | apply Kd.R_drewN | apply Kd.R_drew)); exact HO520.out) hb); have n1_ := Aside0.mk (blk_below (g := gb516) (o := .cells #[.slice A0_0 l0_0.length c0_0] 24 (0, 0)) (by (with_reducible repeat (first | refine blk_drewN ?_ _ | refine blk_drew ?_ | refine blk_alloc ?_ _)); exact BK516.out) hb); have n2_ := Aside0.mk (blk_below (g := gb522) (o := .cells #[.slice Ao16 t518.length co16] 24 (0, 0)) (by (with_reducible repeat (first | refine blk_drewN ?_ _ | refine blk_drew ?_ | refine blk_alloc ?_ _)); exact BK522.out) hb); have n3_ := Aside0.mk (below_step (by repeat (first | (with_reducible first | exact HB.out | apply below_alloc | apply pw_below_drewN | apply below_drew1 | refine below_set ?_ GE516.out | refine below_set ?_ GE522.out) | exact HB.out)) hb); clear HO520; clear BK516; clear BK522; clear HB; have HO520 := n0_; have BK516 := n1_; have BK522 := n2_; have HB := n3_; clear n0_ n1_ n2_ n3_; (try clear hb); (try clear hb2); (try clear hk); (try clear hi)))
      repeat (go_quiet (first | ((with_reducible refine gate_dst (N := 3) rfl ?_); (try (refine gate_guard (by rfl) ?_; dsimp only)); refine box_event ?hg (N := 3) ?hd (cs := #[.slice A0_0 l0_0.length c0_0]) (t := 24) ?hr ?_; (case hd => rfl); (case hg => rfl); (case hr => first | (go_simp; done) | (go_simp; rfl)); intro gb516 hg w11 hbox hb; have n0_ := Aside0.mk (below_step (by repeat (first | (with_reducible first | exact HB.out | apply below_alloc | apply pw_below_drewN | apply below_drew1) | exact HB.out)) hb); have n1_ := Aside0.mk (hbox); have n2_ := Aside0.mk ((by rw [hg]; exact (below_size (by repeat (first | (with_reducible first | exact HB.out | apply below_alloc | apply pw_below_drewN | apply below_drew1) | exact HB.out))) : w.heap.size ≤ gb516)); have n3_ := Aside0.mk ((by rw [hg]; exact (below_size (by repeat (first | (with_reducible first | exact HB.out | apply below_alloc | apply pw_below_drewN | apply below_drew1) | exact HB.out))) : w.heap.size ≤ gb516)); clear HB; have HB := n0_; have BK516 := n1_; have GW516 := n2_; have GE516 := n3_; clear n0_ n1_ n2_ n3_; clear hb hbox hg) | (go_at_call 18; (with_reducible refine (snowlinelaw02_sane.calls k  true _ ?hgl_ A4.out).mono ?_); (case hgl_ => exact HGl.out.below (by repeat (first | (with_reducible first | exact HB.out | apply below_alloc | apply pw_below_drewN | apply below_drew1 | refine below_set ?_ GE516.out) | exact HB.out)) (Nat.le_refl _)); rintro e w12 ⟨rfl, hb⟩; have n0_ := Aside0.mk (blk_below (g := gb516) (o := .cells #[.slice A0_0 l0_0.length c0_0] 24 (0, 0)) (by (with_reducible repeat (first | refine blk_drewN ?_ _ | refine blk_drew ?_ | refine blk_alloc ?_ _)); exact BK516.out) hb); have n1_ := Aside0.mk (below_step (by repeat (first | (with_reducible first | exact HB.out | apply below_alloc | apply pw_below_drewN | apply below_drew1 | refine below_set ?_ GE516.out) | exact HB.out)) hb); clear BK516; clear HB; have BK516 := n0_; have HB := n1_; clear n0_ n1_; (try clear hb); (try clear hb2); (try clear hk); (try clear hi); have hcz13_0 : w12.cell? ⟨gb516, 0, none⟩ = some (.slice A0_0 l0_0.length c0_0) := (blk_cell BK516.out 0).trans rfl; have hfz13_0 := blk_frozen BK516.out 0) | (go_at_call 29; (with_reducible refine (pack_Joined.calls _ _ l0_0 a1 t518 t521 _ ?side1 ?side2 A6.out).mono ?_); (case side1 => repeat (first | exact (Kd.C_below HR0_0.out HB.out) | (with_reducible refine Kd.C_alloc ?_ _) | (with_reducible refine Kd.C_drewN ?_ _) | (with_reducible refine Kd.C_drew ?_))); (case side2 => exact HC0_0.out); rintro e w14 ⟨v519, rfl, ho0, hb⟩; have n0_ := Aside0.mk (Kd.R_lower ho0 (below_size (by repeat (first | (with_reducible first | exact HB.out | apply below_alloc | apply pw_below_drewN | apply below_drew1 | refine below_set ?_ GE516.out) | exact HB.out)))); have n1_ := Aside0.mk (blk_below (g := gb516) (o := .cells #[.slice A0_0 l0_0.length c0_0] 24 (0, 0)) (by (with_reducible repeat (first | refine blk_drewN ?_ _ | refine blk_drew ?_ | refine blk_alloc ?_ _)); exact BK516.out) hb); have n2_ := Aside0.mk (below_step (by repeat (first | (with_reducible first | exact HB.out | apply below_alloc | apply pw_below_drewN | apply below_drew1 | refine below_set ?_ GE516.out) | exact HB.out)) hb); clear BK516; clear HB; have HO520 := n0_; have BK516 := n1_; have HB := n2_; clear n0_ n1_ n2_; (try clear hb); (try clear hb2); (try clear hk); (try clear hi); (try clear ho0)) | ((with_reducible refine gate_dst (N := 7) rfl ?_); (try (refine gate_guard (by rfl) ?_; dsimp only)); refine box_event ?hg (N := 7) ?hd (cs := #[.slice none 0 0]) (t := 24) ?hr ?_; (case hd => rfl); (case hg => rfl); (case hr => first | (go_simp; done) | (go_simp; rfl)); intro gb522 hg w15 hbox hb; have n0_ := Aside0.mk (Kd.R_below (by (with_reducible repeat (first | apply Kd.R_alloc | apply Kd.R_drewN | apply Kd.R_drew)); exact HO520.out) hb); have n1_ := Aside0.mk (blk_below (g := gb516) (o := .cells #[.slice A0_0 l0_0.length c0_0] 24 (0, 0)) (by (with_reducible repeat (first | refine blk_drewN ?_ _ | refine blk_drew ?_ | refine blk_alloc ?_ _)); exact BK516.out) hb); have n2_ := Aside0.mk (below_step (by repeat (first | (with_reducible first | exact HB.out | apply below_alloc | apply pw_below_drewN | apply below_drew1 | refine below_set ?_ GE516.out) | exact HB.out)) hb); have n3_ := Aside0.mk (hbox); have n4_ := Aside0.mk ((by rw [hg]; exact (below_size (by repeat (first | (with_reducible first | exact HB.out | apply below_alloc | apply pw_below_drewN | apply below_drew1 | refine below_set ?_ GE516.out) | exact HB.out))) : w.heap.size ≤ gb522)); have n5_ := Aside0.mk ((by rw [hg]; exact (below_size (by repeat (first | (with_reducible first | exact HB.out | apply below_alloc | apply pw_below_drewN | apply below_drew1 | refine below_set ?_ GE516.out) | exact HB.out))) : w.heap.size ≤ gb522)); have n6_ := Aside0.mk ((by rw [hg]; exact Nat.ne_of_lt (blk_lt (g := gb516) (o := .cells #[.slice A0_0 l0_0.length c0_0] 24 (0, 0)) (by (with_reducible repeat (first | refine blk_drewN ?_ _ | refine blk_drew ?_ | refine blk_alloc ?_ _)); exact BK516.out)) : gb516 ≠ gb522)); have n7_ := Aside0.mk ((by rw [hg]; exact Nat.ne_of_gt (blk_lt (g := gb516) (o := .cells #[.slice A0_0 l0_0.length c0_0] 24 (0, 0)) (by (with_reducible repeat (first | refine blk_drewN ?_ _ | refine blk_drew ?_ | refine blk_alloc ?_ _)); exact BK516.out)) : gb522 ≠ gb516)); clear HO520; clear BK516; clear HB; have HO520 := n0_; have BK516 := n1_; have HB := n2_; have BK522 := n3_; have GW522 := n4_; have GE522 := n5_; have NB516_522 := n6_; have NB522_516 := n7_; clear n0_ n1_ n2_ n3_ n4_ n5_ n6_ n7_; clear hb hbox hg; obtain ⟨Ao16, co16, eo16⟩ := Kd.R_slice HO520.out; subst eo16; have hnb17 := NB522_516.out; have hnc17 := NB516_522.out; have hcz18_0 : w15.cell? ⟨gb522, 0, none⟩ = some (.slice none 0 0) := (blk_cell BK522.out 0).trans rfl; have hfz18_0 := blk_frozen BK522.out 0; have hcz19_0 : w15.cell? ⟨gb516, 0, none⟩ = some (.slice A0_0 l0_0.length c0_0) := (blk_cell BK516.out 0).trans rfl; have hfz19_0 := blk_frozen BK516.out 0) | (go_at_call 24; (with_reducible refine (pack_Water.calls k _ _ l0_0 t523 t524 _ ?side1 ?side2 A8.out).mono ?_); (case side1 => exact Kd.C_below HR0_0.out (by repeat (first | (with_reducible first | exact HB.out | apply below_alloc | apply pw_below_drewN | apply below_drew1 | refine below_set ?_ GE516.out | refine below_set ?_ GE522.out) | exact HB.out))); (case side2 => exact HC0_0.out); rintro e w20 ⟨rfl, hb⟩; have n0_ := Aside0.mk (Kd.R_below (by (with_reducible repeat (first | apply Kd.R_alloc | apply Kd.R_drewN | apply Kd.R_drew)); exact (Kd.R_mono (Kd.R_far (p := ⟨gb522, 0, none⟩) (Kd.R_types HO520.out BK522.out (by decide)) (fun _ hk => hk.2) (.slice Ao16 t518.length co16)) (fun _ h_ => h_.1))) hb); have n1_ := Aside0.mk (blk_below (g := gb516) (o := .cells #[.slice A0_0 l0_0.length c0_0] 24 (0, 0)) (by (with_reducible repeat (first | refine blk_drewN ?_ _ | refine blk_drew ?_ | refine blk_alloc ?_ _)); refine blk_far ?_ NB516_522.out _; (with_reducible repeat (first | refine blk_drewN ?_ _ | refine blk_drew ?_ | refine blk_alloc ?_ _)); exact BK516.out) hb); have n2_ := Aside0.mk (blk_below (g := gb522) (o := .cells #[.slice Ao16 t518.length co16] 24 (0, 0)) (by (with_reducible repeat (first | refine blk_drewN ?_ _ | refine blk_drew ?_ | refine blk_alloc ?_ _)); refine blk_put (cs := #[.slice none 0 0]) ?_ 0 _ rfl; (with_reducible repeat (first | refine blk_drewN ?_ _ | refine blk_drew ?_ | refine blk_alloc ?_ _)); exact BK522.out) hb); have n3_ := Aside0.mk (below_step (by repeat (first | (with_reducible first | exact HB.out | apply below_alloc | apply pw_below_drewN | apply below_drew1 | refine below_set ?_ GE516.out | refine below_set ?_ GE522.out) | exact HB.out)) hb); clear HO520; clear BK516; clear BK522; clear HB; have HO520 := n0_; have BK516 := n1_; have BK522 := n2_; have HB := n3_; clear n0_ n1_ n2_ n3_; (try clear hb); (try clear hb2); (try clear hk); (try clear hi); have hcz21_0 : w20.cell? ⟨gb522, 0, none⟩ = some (.slice Ao16 t518.length co16) := (blk_cell BK522.out 0).trans rfl; have hfz21_0 := blk_frozen BK522.out 0) | (go_at_call 24; (with_reducible refine (pack_Water.calls k _ _ t518 t525 t526 _ ?side1 ?side2 A9.out).mono ?_); (case side1 => repeat (first | exact (Kd.R_reads' HO520.out).2.2 | (with_reducible refine Kd.C_alloc ?_ _) | (with_reducible refine Kd.C_drewN ?_ _) | (with_reducible refine Kd.C_drew ?_))); (case side2 => exact (Kd.R_reads' HO520.out).2.1); rintro e w22 ⟨rfl, hb⟩; have n0_ := Aside0.mk (Kd.R_below (by (with_reducible repeat (first | apply Kd.R_alloc | apply Kd.R_drewN | apply Kd.R_drew)); exact HO520.out) hb); have n1_ := Aside0.mk (blk_below (g := gb516) (o := .cells #[.slice A0_0 l0_0.length c0_0] 24 (0, 0)) (by (with_reducible repeat (first | refine blk_drewN ?_ _ | refine blk_drew ?_ | refine blk_alloc ?_ _)); exact BK516.out) hb); have n2_ := Aside0.mk (blk_below (g := gb522) (o := .cells #[.slice Ao16 t518.length co16] 24 (0, 0)) (by (with_reducible repeat (first | refine blk_drewN ?_ _ | refine blk_drew ?_ | refine blk_alloc ?_ _)); exact BK522.out) hb); have n3_ := Aside0.mk (below_step (by repeat (first | (with_reducible first | exact HB.out | apply below_alloc | apply pw_below_drewN | apply below_drew1 | refine below_set ?_ GE516.out | refine below_set ?_ GE522.out) | exact HB.out)) hb); clear HO520; clear BK516; clear BK522; clear HB; have HO520 := n0_; have BK516 := n1_; have BK522 := n2_; have HB := n3_; clear n0_ n1_ n2_ n3_; (try clear hb); (try clear hb2); (try clear hk); (try clear hi))); go_upto_region 8 with (first | ((with_reducible refine gate_dst (N := 3) rfl ?_); (try (refine gate_guard (by rfl) ?_; dsimp only)); refine box_event ?hg (N := 3) ?hd (cs := #[.slice A0_0 l0_0.length c0_0]) (t := 24) ?hr ?_; (case hd => rfl); (case hg => rfl); (case hr => first | (go_simp; done) | (go_simp; rfl)); intro gb516 hg w11 hbox hb; have n0_ := Aside0.mk (below_step (by repeat (first | (with_reducible first | exact HB.out | apply below_alloc | apply pw_below_drewN | apply below_drew1) | exact HB.out)) hb); have n1_ := Aside0.mk (hbox); have n2_ := Aside0.mk ((by rw [hg]; exact (below_size (by repeat (first | (with_reducible first | exact HB.out | apply below_alloc | apply pw_below_drewN | apply below_drew1) | exact HB.out))) : w.heap.size ≤ gb516)); have n3_ := Aside0.mk ((by rw [hg]; exact (below_size (by repeat (first | (with_reducible first | exact HB.out | apply below_alloc | apply pw_below_drewN | apply below_drew1) | exact HB.out))) : w.heap.size ≤ gb516)); clear HB; have HB := n0_; have BK516 := n1_; have GW516 := n2_; have GE516 := n3_; clear n0_ n1_ n2_ n3_; clear hb hbox hg) | (go_at_call 18; (with_reducible refine (snowlinelaw02_sane.calls k  true _ ?hgl_ A4.out).mono ?_); (case hgl_ => exact HGl.out.below (by repeat (first | (with_reducible first | exact HB.out | apply below_alloc | apply pw_below_drewN | apply below_drew1 | refine below_set ?_ GE516.out) | exact HB.out)) (Nat.le_refl _)); rintro e w12 ⟨rfl, hb⟩; have n0_ := Aside0.mk (blk_below (g := gb516) (o := .cells #[.slice A0_0 l0_0.length c0_0] 24 (0, 0)) (by (with_reducible repeat (first | refine blk_drewN ?_ _ | refine blk_drew ?_ | refine blk_alloc ?_ _)); exact BK516.out) hb); have n1_ := Aside0.mk (below_step (by repeat (first | (with_reducible first | exact HB.out | apply below_alloc | apply pw_below_drewN | apply below_drew1 | refine below_set ?_ GE516.out) | exact HB.out)) hb); clear BK516; clear HB; have BK516 := n0_; have HB := n1_; clear n0_ n1_; (try clear hb); (try clear hb2); (try clear hk); (try clear hi); have hcz13_0 : w12.cell? ⟨gb516, 0, none⟩ = some (.slice A0_0 l0_0.length c0_0) := (blk_cell BK516.out 0).trans rfl; have hfz13_0 := blk_frozen BK516.out 0) | (go_at_call 29; (with_reducible refine (pack_Joined.calls _ _ l0_0 a1 t518 t521 _ ?side1 ?side2 A6.out).mono ?_); (case side1 => repeat (first | exact (Kd.C_below HR0_0.out HB.out) | (with_reducible refine Kd.C_alloc ?_ _) | (with_reducible refine Kd.C_drewN ?_ _) | (with_reducible refine Kd.C_drew ?_))); (case side2 => exact HC0_0.out); rintro e w14 ⟨v519, rfl, ho0, hb⟩; have n0_ := Aside0.mk (Kd.R_lower ho0 (below_size (by repeat (first | (with_reducible first | exact HB.out | apply below_alloc | apply pw_below_drewN | apply below_drew1 | refine below_set ?_ GE516.out) | exact HB.out)))); have n1_ := Aside0.mk (blk_below (g := gb516) (o := .cells #[.slice A0_0 l0_0.length c0_0] 24 (0, 0)) (by (with_reducible repeat (first | refine blk_drewN ?_ _ | refine blk_drew ?_ | refine blk_alloc ?_ _)); exact BK516.out) hb); have n2_ := Aside0.mk (below_step (by repeat (first | (with_reducible first | exact HB.out | apply below_alloc | apply pw_below_drewN | apply below_drew1 | refine below_set ?_ GE516.out) | exact HB.out)) hb); clear BK516; clear HB; have HO520 := n0_; have BK516 := n1_; have HB := n2_; clear n0_ n1_ n2_; (try clear hb); (try clear hb2); (try clear hk); (try clear hi); (try clear ho0)) | ((with_reducible refine gate_dst (N := 7) rfl ?_); (try (refine gate_guard (by rfl) ?_; dsimp only)); refine box_event ?hg (N := 7) ?hd (cs := #[.slice none 0 0]) (t := 24) ?hr ?_; (case hd => rfl); (case hg => rfl); (case hr => first | (go_simp; done) | (go_simp; rfl)); intro gb522 hg w15 hbox hb; have n0_ := Aside0.mk (Kd.R_below (by (with_reducible repeat (first | apply Kd.R_alloc | apply Kd.R_drewN | apply Kd.R_drew)); exact HO520.out) hb); have n1_ := Aside0.mk (blk_below (g := gb516) (o := .cells #[.slice A0_0 l0_0.length c0_0] 24 (0, 0)) (by (with_reducible repeat (first | refine blk_drewN ?_ _ | refine blk_drew ?_ | refine blk_alloc ?_ _)); exact BK516.out) hb); have n2_ := Aside0.mk (below_step (by repeat (first | (with_reducible first | exact HB.out | apply below_alloc | apply pw_below_drewN | apply below_drew1 | refine below_set ?_ GE516.out) | exact HB.out)) hb); have n3_ := Aside0.mk (hbox); have n4_ := Aside0.mk ((by rw [hg]; exact (below_size (by repeat (first | (with_reducible first | exact HB.out | apply below_alloc | apply pw_below_drewN | apply below_drew1 | refine below_set ?_ GE516.out) | exact HB.out))) : w.heap.size ≤ gb522)); have n5_ := Aside0.mk ((by rw [hg]; exact (below_size (by repeat (first | (with_reducible first | exact HB.out | apply below_alloc | apply pw_below_drewN | apply below_drew1 | refine below_set ?_ GE516.out) | exact HB.out))) : w.heap.size ≤ gb522)); have n6_ := Aside0.mk ((by rw [hg]; exact Nat.ne_of_lt (blk_lt (g := gb516) (o := .cells #[.slice A0_0 l0_0.length c0_0] 24 (0, 0)) (by (with_reducible repeat (first | refine blk_drewN ?_ _ | refine blk_drew ?_ | refine blk_alloc ?_ _)); exact BK516.out)) : gb516 ≠ gb522)); have n7_ := Aside0.mk ((by rw [hg]; exact Nat.ne_of_gt (blk_lt (g := gb516) (o := .cells #[.slice A0_0 l0_0.length c0_0] 24 (0, 0)) (by (with_reducible repeat (first | refine blk_drewN ?_ _ | refine blk_drew ?_ | refine blk_alloc ?_ _)); exact BK516.out)) : gb522 ≠ gb516)); clear HO520; clear BK516; clear HB; have HO520 := n0_; have BK516 := n1_; have HB := n2_; have BK522 := n3_; have GW522 := n4_; have GE522 := n5_; have NB516_522 := n6_; have NB522_516 := n7_; clear n0_ n1_ n2_ n3_ n4_ n5_ n6_ n7_; clear hb hbox hg; obtain ⟨Ao16, co16, eo16⟩ := Kd.R_slice HO520.out; subst eo16; have hnb17 := NB522_516.out; have hnc17 := NB516_522.out; have hcz18_0 : w15.cell? ⟨gb522, 0, none⟩ = some (.slice none 0 0) := (blk_cell BK522.out 0).trans rfl; have hfz18_0 := blk_frozen BK522.out 0; have hcz19_0 : w15.cell? ⟨gb516, 0, none⟩ = some (.slice A0_0 l0_0.length c0_0) := (blk_cell BK516.out 0).trans rfl; have hfz19_0 := blk_frozen BK516.out 0) | (go_at_call 24; (with_reducible refine (pack_Water.calls k _ _ l0_0 t523 t524 _ ?side1 ?side2 A8.out).mono ?_); (case side1 => exact Kd.C_below HR0_0.out (by repeat (first | (with_reducible first | exact HB.out | apply below_alloc | apply pw_below_drewN | apply below_drew1 | refine below_set ?_ GE516.out | refine below_set ?_ GE522.out) | exact HB.out))); (case side2 => exact HC0_0.out); rintro e w20 ⟨rfl, hb⟩; have n0_ := Aside0.mk (Kd.R_below (by (with_reducible repeat (first | apply Kd.R_alloc | apply Kd.R_drewN | apply Kd.R_drew)); exact (Kd.R_mono (Kd.R_far (p := ⟨gb522, 0, none⟩) (Kd.R_types HO520.out BK522.out (by decide)) (fun _ hk => hk.2) (.slice Ao16 t518.length co16)) (fun _ h_ => h_.1))) hb); have n1_ := Aside0.mk (blk_below (g := gb516) (o := .cells #[.slice A0_0 l0_0.length c0_0] 24 (0, 0)) (by (with_reducible repeat (first | refine blk_drewN ?_ _ | refine blk_drew ?_ | refine blk_alloc ?_ _)); refine blk_far ?_ NB516_522.out _; (with_reducible repeat (first | refine blk_drewN ?_ _ | refine blk_drew ?_ | refine blk_alloc ?_ _)); exact BK516.out) hb); have n2_ := Aside0.mk (blk_below (g := gb522) (o := .cells #[.slice Ao16 t518.length co16] 24 (0, 0)) (by (with_reducible repeat (first | refine blk_drewN ?_ _ | refine blk_drew ?_ | refine blk_alloc ?_ _)); refine blk_put (cs := #[.slice none 0 0]) ?_ 0 _ rfl; (with_reducible repeat (first | refine blk_drewN ?_ _ | refine blk_drew ?_ | refine blk_alloc ?_ _)); exact BK522.out) hb); have n3_ := Aside0.mk (below_step (by repeat (first | (with_reducible first | exact HB.out | apply below_alloc | apply pw_below_drewN | apply below_drew1 | refine below_set ?_ GE516.out | refine below_set ?_ GE522.out) | exact HB.out)) hb); clear HO520; clear BK516; clear BK522; clear HB; have HO520 := n0_; have BK516 := n1_; have BK522 := n2_; have HB := n3_; clear n0_ n1_ n2_ n3_; (try clear hb); (try clear hb2); (try clear hk); (try clear hi); have hcz21_0 : w20.cell? ⟨gb522, 0, none⟩ = some (.slice Ao16 t518.length co16) := (blk_cell BK522.out 0).trans rfl; have hfz21_0 := blk_frozen BK522.out 0) | (go_at_call 24; (with_reducible refine (pack_Water.calls k _ _ t518 t525 t526 _ ?side1 ?side2 A9.out).mono ?_); (case side1 => repeat (first | exact (Kd.R_reads' HO520.out).2.2 | (with_reducible refine Kd.C_alloc ?_ _) | (with_reducible refine Kd.C_drewN ?_ _) | (with_reducible refine Kd.C_drew ?_))); (case side2 => exact (Kd.R_reads' HO520.out).2.1); rintro e w22 ⟨rfl, hb⟩; have n0_ := Aside0.mk (Kd.R_below (by (with_reducible repeat (first | apply Kd.R_alloc | apply Kd.R_drewN | apply Kd.R_drew)); exact HO520.out) hb); have n1_ := Aside0.mk (blk_below (g := gb516) (o := .cells #[.slice A0_0 l0_0.length c0_0] 24 (0, 0)) (by (with_reducible repeat (first | refine blk_drewN ?_ _ | refine blk_drew ?_ | refine blk_alloc ?_ _)); exact BK516.out) hb); have n2_ := Aside0.mk (blk_below (g := gb522) (o := .cells #[.slice Ao16 t518.length co16] 24 (0, 0)) (by (with_reducible repeat (first | refine blk_drewN ?_ _ | refine blk_drew ?_ | refine blk_alloc ?_ _)); exact BK522.out) hb); have n3_ := Aside0.mk (below_step (by repeat (first | (with_reducible first | exact HB.out | apply below_alloc | apply pw_below_drewN | apply below_drew1 | refine below_set ?_ GE516.out | refine below_set ?_ GE522.out) | exact HB.out)) hb); clear HO520; clear BK516; clear BK522; clear HB; have HO520 := n0_; have BK516 := n1_; have BK522 := n2_; have HB := n3_; clear n0_ n1_ n2_ n3_; (try clear hb); (try clear hb2); (try clear hk); (try clear hi))))
      (try simp only [Act.put, List.setIfInBounds_toArray, List.set_cons_zero, List.set_cons_succ])
      go_cut [65] (fun v65 wc => ∃ (kq : Nat) (x65_9 : Bool), v65 = .bool x65_9 ∧ Aside0 (snowlinelaw02_PackJoined.j0 kq a1 a2 x65_9 l0_0 t518 = some r) ∧ Aside0 (kq ≤ k) ∧ Aside0 (Kd.R k48 48 wc w.heap.size (fun _ => True) (.slice Ao16 t518.length co16) t518) ∧ Aside0 (wc.heap[gb516]? = some (.cells #[(.slice A0_0 l0_0.length c0_0)] 24 (0, 0))) ∧ Aside0 (wc.heap[gb522]? = some (.cells #[(.slice Ao16 t518.length co16)] 24 (0, 0))) ∧ Aside0 (Below w.heap.size w wc))
      case first =>
        have H := HC10.out
        clear HC10
        by_cases c23 : t524 = 0
        · rw [if_pos c23] at H
          have c23b0 : (t524 == 0) = true := beq_iff_eq.mpr c23
          have c23b1 : (t524 != 0) = false := bne_eq_false_iff_eq.mpr c23
          clear c23
          (first | rw [c23b0] | (simp only [i64_w, i32_w]; rw [c23b0]) | skip)
          by_cases c24 : t526 = 0
          · rw [if_pos c24] at H
            have c24b0 : (t526 == 0) = true := beq_iff_eq.mpr c24
            have c24b1 : (t526 != 0) = false := bne_eq_false_iff_eq.mpr c24
            clear c24
            by_cases c25 : t523 = t525
            · rw [if_pos c25] at H
              have c25b0 : (t523 == t525) = true := beq_iff_eq.mpr c25
              have c25b1 : (t523 != t525) = false := bne_eq_false_iff_eq.mpr c25
              clear c25
              obtain ⟨ji26, hji26⟩ : ∃ j_ : Int, (mn a1 (l0_0.length : Int)) = j_ := ⟨_, rfl⟩
              replace H : (snowlinelaw02_PackJoined.j0 k a1 a2 ((t518.length : Int) != (ji26)) l0_0 t518) = some r := by first | (rw [hji26] at H; exact H) | (simp only [hji26] at H ⊢; exact H)
              have hji26_ : (if (l0_0.length : Int) < a1 then (l0_0.length : Int) else a1) = ji26 := hji26
              have H' := Aside0.mk H
              clear H
              have hnb27 := NB522_516.out
              have hnc27 := NB516_522.out
              have hcz28_0 : w22.cell? ⟨gb522, 0, none⟩ = some (.slice Ao16 t518.length co16) := (blk_cell BK522.out 0).trans rfl
              have hfz28_0 := blk_frozen BK522.out 0
              have hcz29_0 : w22.cell? ⟨gb516, 0, none⟩ = some (.slice A0_0 l0_0.length c0_0) := (blk_cell BK516.out 0).trans rfl
              have hfz29_0 := blk_frozen BK516.out 0
              go_wp2
              repeat (go_quiet (fail); try go_wp2)
              go_meet
              case rel => exact ⟨_, (((t518.length : Int) != (ji26))), (by first | rfl | (simp; done) | (simp only [← hji26] <;> (first | rfl | simp)) | (simp [*]; done)), H', ⟨by first | omega | exact Nat.le_refl _⟩, ⟨by (with_reducible repeat (first | apply Kd.R_alloc | apply Kd.R_drewN | apply Kd.R_drew)); exact HO520.out⟩, ⟨by (with_reducible repeat (first | refine blk_drewN ?_ _ | refine blk_drew ?_ | refine blk_alloc ?_ _)); exact BK516.out⟩, ⟨by (with_reducible repeat (first | refine blk_drewN ?_ _ | refine blk_drew ?_ | refine blk_alloc ?_ _)); exact BK522.out⟩, ⟨by repeat (first | (with_reducible first | exact HB.out | apply below_alloc | apply pw_below_drewN | apply below_drew1 | refine below_set ?_ GE516.out | refine below_set ?_ GE522.out) | exact HB.out)⟩⟩
            · rw [if_neg c25] at H
              have c25b0 : (t523 == t525) = false := beq_eq_false_iff_ne.mpr c25
              have c25b1 : (t523 != t525) = true := bne_iff_ne.mpr c25
              have H' := Aside0.mk H
              clear H
              go_wp2
              repeat (go_quiet (fail); try go_wp2)
              go_meet
              case rel => exact ⟨_, (true), (by first | rfl | (simp; done) | (simp [*]; done)), H', ⟨by first | omega | exact Nat.le_refl _⟩, ⟨by (with_reducible repeat (first | apply Kd.R_alloc | apply Kd.R_drewN | apply Kd.R_drew)); exact HO520.out⟩, ⟨by (with_reducible repeat (first | refine blk_drewN ?_ _ | refine blk_drew ?_ | refine blk_alloc ?_ _)); exact BK516.out⟩, ⟨by (with_reducible repeat (first | refine blk_drewN ?_ _ | refine blk_drew ?_ | refine blk_alloc ?_ _)); exact BK522.out⟩, ⟨by repeat (first | (with_reducible first | exact HB.out | apply below_alloc | apply pw_below_drewN | apply below_drew1 | refine below_set ?_ GE516.out | refine below_set ?_ GE522.out) | exact HB.out)⟩⟩
          · rw [if_neg c24] at H
            have c24b0 : (t526 == 0) = false := beq_eq_false_iff_ne.mpr c24
            have c24b1 : (t526 != 0) = true := bne_iff_ne.mpr c24
            have H' := Aside0.mk H
            clear H
            go_wp2
            repeat (go_quiet (fail); try go_wp2)
            go_meet
            case rel => exact ⟨_, (true), (by first | rfl | (simp; done) | (simp [*]; done)), H', ⟨by first | omega | exact Nat.le_refl _⟩, ⟨by (with_reducible repeat (first | apply Kd.R_alloc | apply Kd.R_drewN | apply Kd.R_drew)); exact HO520.out⟩, ⟨by (with_reducible repeat (first | refine blk_drewN ?_ _ | refine blk_drew ?_ | refine blk_alloc ?_ _)); exact BK516.out⟩, ⟨by (with_reducible repeat (first | refine blk_drewN ?_ _ | refine blk_drew ?_ | refine blk_alloc ?_ _)); exact BK522.out⟩, ⟨by repeat (first | (with_reducible first | exact HB.out | apply below_alloc | apply pw_below_drewN | apply below_drew1 | refine below_set ?_ GE516.out | refine below_set ?_ GE522.out) | exact HB.out)⟩⟩
        · rw [if_neg c23] at H
          have c23b0 : (t524 == 0) = false := beq_eq_false_iff_ne.mpr c23
          have c23b1 : (t524 != 0) = true := bne_iff_ne.mpr c23
          (first | rw [c23b0] | (simp only [i64_w, i32_w]; rw [c23b0]) | skip)
          have H' := Aside0.mk H
          clear H
          go_wp2
          repeat (go_quiet (fail); try go_wp2)
          go_meet
          case rel => exact ⟨_, (true), (by first | rfl | (simp; done) | (simp [*]; done)), H', ⟨by first | omega | exact Nat.le_refl _⟩, ⟨by (with_reducible repeat (first | apply Kd.R_alloc | apply Kd.R_drewN | apply Kd.R_drew)); exact HO520.out⟩, ⟨by (with_reducible repeat (first | refine blk_drewN ?_ _ | refine blk_drew ?_ | refine blk_alloc ?_ _)); exact BK516.out⟩, ⟨by (with_reducible repeat (first | refine blk_drewN ?_ _ | refine blk_drew ?_ | refine blk_alloc ?_ _)); exact BK522.out⟩, ⟨by repeat (first | (with_reducible first | exact HB.out | apply below_alloc | apply pw_below_drewN | apply below_drew1 | refine below_set ?_ GE516.out | refine below_set ?_ GE522.out) | exact HB.out)⟩⟩
      case rest =>
        clear HC10
        try clear c1
        try clear c2
        try clear p2
        try clear c5
        try clear c7
        try clear c7b0
        try clear c7b1
        try clear c8
        try clear c17
        try clear c23
        try clear c23b0
        try clear c23b1
        try clear c24
        try clear c24b0
        try clear c24b1
        try clear c25
        try clear c25b0
        try clear c25b1
        try clear c27
        try clear hcz13_0
        try clear hcz18_0
        try clear hcz19_0
        try clear hcz21_0
        try clear hcz28_0
        try clear hcz29_0
        try clear hfz13_0
        try clear hfz18_0
        try clear hfz19_0
        try clear hfz21_0
        try clear hfz28_0
        try clear hfz29_0
        obtain ⟨kq, x65_9, rfl, HA, HJ9, HO_523000, BK516, BK522, HB⟩ := hcut
        cases kq with
        | zero => exact absurd HA.out (by simp [snowlinelaw02_PackJoined.j0])
        | succ kj9 =>
          have H := HA.out
          clear HA
          simp only [snowlinelaw02_PackJoined.j0] at H
          by_cases c30 : x65_9 = true
          · subst c30
            have H1 : (some false) = some r := by rw [if_pos rfl] at H; exact H
            clear H
            have H := H1
            clear H1
            obtain rfl := Option.some.inj H
            go_wp2
            repeat (go_quiet (fail); try go_wp2)
            go_ret
            exact ⟨by first | rfl | (simp [errW_none, errW_some] <;> rfl) | (simp [*, errW_none, errW_some] <;> rfl), by repeat (first | (with_reducible first | exact HB.out | apply below_alloc | apply pw_below_drewN | apply below_drew1 | refine below_set ?_ GE516.out | refine below_set ?_ GE522.out) | exact HB.out)⟩
          · replace c30 := Bool.eq_false_iff.mpr c30
            subst c30
            have H1 : (snowlinelaw02_PackJoined.l0 kj9 a1 a2 0 0 l0_0 t518) = some r := by rw [if_neg (show ¬ (false = true) by decide)] at H; exact H
            clear H
            have H := H1
            clear H1
            have H' := Aside0.mk H
            clear H
            go_wp2
            repeat (go_quiet (fail); try go_wp2)
            go_loopg [13, 14] kj9 (fun kq v13 v14 w' => ∃ (x13_2 : Int) (x14_2 : Int), v13 = .int .i64 x13_2 ∧ v14 = .int .i64 x14_2 ∧ Aside0 (snowlinelaw02_PackJoined.l0 kq a1 a2 x13_2 x14_2 l0_0 t518 = some r) ∧ Aside0 (kq ≤ kj9) ∧ Aside0 (Kd.R k48 48 w' w.heap.size (fun _ => True) (.slice Ao16 t518.length co16) t518) ∧ Aside0 (w'.heap[gb516]? = some (.cells #[(.slice A0_0 l0_0.length c0_0)] 24 (0, 0))) ∧ Aside0 (w'.heap[gb522]? = some (.cells #[(.slice Ao16 t518.length co16)] 24 (0, 0))) ∧ Aside0 (Below w.heap.size w w'))
            case atStart => exact ⟨(0), (0), (by first | rfl | (simp; done) | (simp [*]; done)), (by first | rfl | (simp; done) | (simp [*]; done)), H', ⟨Nat.le_refl _⟩, ⟨by (with_reducible repeat (first | apply Kd.R_alloc | apply Kd.R_drewN | apply Kd.R_drew)); exact HO_523000.out⟩, ⟨by (with_reducible repeat (first | refine blk_drewN ?_ _ | refine blk_drew ?_ | refine blk_alloc ?_ _)); exact BK516.out⟩, ⟨by (with_reducible repeat (first | refine blk_drewN ?_ _ | refine blk_drew ?_ | refine blk_alloc ?_ _)); exact BK522.out⟩, ⟨by repeat (first | (with_reducible first | exact HB.out | apply below_alloc | apply pw_below_drewN | apply below_drew1 | refine below_set ?_ GE516.out | refine below_set ?_ GE522.out) | exact HB.out)⟩⟩
            case round =>
              clear H'
              try clear c1
              try clear c2
              try clear p2
              try clear c3
              try clear c5
              try clear c7
              try clear c7b0
              try clear c7b1
              try clear c8
              try clear c17
              try clear c23
              try clear c23b0
              try clear c23b1
              try clear c24
              try clear c24b0
              try clear c24b1
              try clear c25
              try clear c25b0
              try clear c25b1
              try clear c27
              try clear c30
              try clear hcz13_0
              try clear hcz18_0
              try clear hcz19_0
              try clear hcz21_0
              try clear hcz28_0
              try clear hcz29_0
              try clear hfz13_0
              try clear hfz18_0
              try clear hfz19_0
              try clear hfz21_0
              try clear hfz28_0
              try clear hfz29_0
              try clear p2
              obtain ⟨x13_2, x14_2, rfl, rfl, HA, HK2, HO_523000, BK516, BK522, HB⟩ := hrel
              cases gk with
              | zero => exact absurd HA.out (by simp [snowlinelaw02_PackJoined.l0])
              | succ k2 =>
                have H := HA.out
                clear HA
                simp only [snowlinelaw02_PackJoined.l0] at H
                by_cases c31 : x14_2 < (l0_0.length : Int)
                · rw [if_pos c31] at H
                  have c31b0 : decide (x14_2 < (l0_0.length : Int)) = true := decide_eq_true c31
                  clear c31
                  by_cases c32 : 0 ≤ x14_2
                  · rw [if_pos c32] at H
                    have c32b0 : decide (0 ≤ x14_2) = true := decide_eq_true c32
                    clear c32
                    have H' := Aside0.mk H
                    clear H
                    have hnb33 := NB516_522.out
                    have hnc33 := NB522_516.out
                    have hcz34_0 : wr.cell? ⟨gb516, 0, none⟩ = some (.slice A0_0 l0_0.length c0_0) := (blk_cell BK516.out 0).trans rfl
                    have hfz34_0 := blk_frozen BK516.out 0
                    have p527 : 0 ≤ (x14_2 : Int) := of_decide_eq_true (by first | (with_reducible assumption) | assumption)
                    have q527 : x14_2 < (l0_0.length : Int) := of_decide_eq_true (by first | (with_reducible assumption) | assumption)
                    obtain ⟨ad527, e527, hx527_0, hx527_1, hx527_2⟩ := at_T48 HR0_0.out x14_2 p527 q527
                    cases e527
                    replace hx527_0 := (HB.out.cell (World.block_lt_of_cell? w _ hx527_0)).trans hx527_0
                    replace hx527_1 := (HB.out.cell (World.block_lt_of_cell? w _ hx527_1)).trans hx527_1
                    replace hx527_2 := (HB.out.cell (World.block_lt_of_cell? w _ hx527_2)).trans hx527_2
                    replace p527 := eq_true p527
                    replace q527 := eq_true q527
                    have p528 : 0 ≤ (x14_2 : Int) := of_decide_eq_true (by first | (with_reducible assumption) | assumption)
                    have q528 : x14_2 < (l0_0.length : Int) := of_decide_eq_true (by first | (with_reducible assumption) | assumption)
                    obtain ⟨ad528, e528, hx528_0, hx528_1, hx528_2⟩ := at_T48 HR0_0.out x14_2 p528 q528
                    obtain rfl : ad527 = ad528 := (by injection e528)
                    replace hx528_0 := (HB.out.cell (World.block_lt_of_cell? w _ hx528_0)).trans hx528_0
                    replace hx528_1 := (HB.out.cell (World.block_lt_of_cell? w _ hx528_1)).trans hx528_1
                    replace hx528_2 := (HB.out.cell (World.block_lt_of_cell? w _ hx528_2)).trans hx528_2
                    replace p528 := eq_true p528
                    replace q528 := eq_true q528
                    go_wp2
                    repeat (go_quiet (fail); try go_wp2)
                    go_roundg k2
                    case measure => have := HJ9.out; have := HK2.out; omega
                    case rel => exact ⟨(wrap64 ((wrap64 (x13_2 + ((rd_T48 l0_0 x14_2).f2))) - ((rd_T48 l0_0 x14_2).f1))), (wrap64 (x14_2 + 1)), (by first | rfl | (simp; done) | (simp [*]; done)), (by first | rfl | (simp; done) | (simp [*]; done)), H', ⟨by have := HJ9.out; have := HK2.out; omega⟩, ⟨by (with_reducible repeat (first | apply Kd.R_alloc | apply Kd.R_drewN | apply Kd.R_drew)); exact HO_523000.out⟩, ⟨by (with_reducible repeat (first | refine blk_drewN ?_ _ | refine blk_drew ?_ | refine blk_alloc ?_ _)); exact BK516.out⟩, ⟨by (with_reducible repeat (first | refine blk_drewN ?_ _ | refine blk_drew ?_ | refine blk_alloc ?_ _)); exact BK522.out⟩, ⟨by repeat (first | (with_reducible first | exact HB.out | apply below_alloc | apply pw_below_drewN | apply below_drew1 | refine below_set ?_ GE516.out | refine below_set ?_ GE522.out) | exact HB.out)⟩⟩
                  · rw [if_neg c32] at H
                    exact absurd H (by simp)
                · rw [if_neg c31] at H
                  have c31b0 : decide (x14_2 < (l0_0.length : Int)) = false := decide_eq_false c31
                  clear c31
                  have H' := Aside0.mk H
                  clear H
                  have hnb35 := NB516_522.out
                  have hnc35 := NB522_516.out
                  have hcz36_0 : wr.cell? ⟨gb516, 0, none⟩ = some (.slice A0_0 l0_0.length c0_0) := (blk_cell BK516.out 0).trans rfl
                  have hfz36_0 := blk_frozen BK516.out 0
                  go_wp2
                  repeat (go_quiet (fail); try go_wp2)
                  go_loopg [13, 15] k2 (fun kq v13 v15 w' => ∃ (x13_3 : Int) (x15_3 : Int), v13 = .int .i64 x13_3 ∧ v15 = .int .i64 x15_3 ∧ Aside0 (snowlinelaw02_PackJoined.l1 kq a1 a2 x13_3 x15_3 l0_0 t518 = some r) ∧ Aside0 (kq ≤ k2) ∧ Aside0 (Kd.R k48 48 w' w.heap.size (fun _ => True) (.slice Ao16 t518.length co16) t518) ∧ Aside0 (w'.heap[gb516]? = some (.cells #[(.slice A0_0 l0_0.length c0_0)] 24 (0, 0))) ∧ Aside0 (w'.heap[gb522]? = some (.cells #[(.slice Ao16 t518.length co16)] 24 (0, 0))) ∧ Aside0 (Below w.heap.size w w'))
                  case atStart => exact ⟨(x13_2), (0), (by first | rfl | (simp; done) | (simp [*]; done)), (by first | rfl | (simp; done) | (simp [*]; done)), H', ⟨Nat.le_refl _⟩, ⟨by (with_reducible repeat (first | apply Kd.R_alloc | apply Kd.R_drewN | apply Kd.R_drew)); exact HO_523000.out⟩, ⟨by (with_reducible repeat (first | refine blk_drewN ?_ _ | refine blk_drew ?_ | refine blk_alloc ?_ _)); exact BK516.out⟩, ⟨by (with_reducible repeat (first | refine blk_drewN ?_ _ | refine blk_drew ?_ | refine blk_alloc ?_ _)); exact BK522.out⟩, ⟨by repeat (first | (with_reducible first | exact HB.out | apply below_alloc | apply pw_below_drewN | apply below_drew1 | refine below_set ?_ GE516.out | refine below_set ?_ GE522.out) | exact HB.out)⟩⟩
                  case round =>
                    clear H'
                    try clear c1
                    try clear c2
                    try clear p2
                    try clear c3
                    try clear c5
                    try clear p5
                    try clear q5
                    try clear hx5
                    try clear p6
                    try clear c7
                    try clear c7b0
                    try clear c7b1
                    try clear c8
                    try clear c17
                    try clear c23
                    try clear c23b0
                    try clear c23b1
                    try clear c24
                    try clear c24b0
                    try clear c24b1
                    try clear c25
                    try clear c25b0
                    try clear c25b1
                    try clear c27
                    try clear c30
                    try clear c31
                    try clear c31b0
                    try clear c32
                    try clear c32b0
                    try clear c33
                    try clear c35
                    try clear hcz13_0
                    try clear hcz18_0
                    try clear hcz19_0
                    try clear hcz21_0
                    try clear hcz28_0
                    try clear hcz29_0
                    try clear hcz34_0
                    try clear hcz36_0
                    try clear hfz13_0
                    try clear hfz18_0
                    try clear hfz19_0
                    try clear hfz21_0
                    try clear hfz28_0
                    try clear hfz29_0
                    try clear hfz34_0
                    try clear hfz36_0
                    try clear hx527_0
                    try clear hx527_1
                    try clear hx527_2
                    try clear hx528_0
                    try clear hx528_1
                    try clear hx528_2
                    try clear p2
                    try clear p527
                    try clear p528
                    try clear q527
                    try clear q528
                    obtain ⟨x13_3, x15_3, rfl, rfl, HA, HK3, HO_523000, BK516, BK522, HB⟩ := hrel
                    cases gk with
                    | zero => exact absurd HA.out (by simp [snowlinelaw02_PackJoined.l1])
                    | succ k3 =>
                      have H := HA.out
                      clear HA
                      simp only [snowlinelaw02_PackJoined.l1] at H
                      by_cases c37 : x15_3 < (t518.length : Int)
                      · rw [if_pos c37] at H
                        have c37b0 : decide (x15_3 < (t518.length : Int)) = true := decide_eq_true c37
                        clear c37
                        by_cases c38 : 0 ≤ x15_3
                        · rw [if_pos c38] at H
                          have c38b0 : decide (0 ≤ x15_3) = true := decide_eq_true c38
                          clear c38
                          have H' := Aside0.mk H
                          clear H
                          have hnb39 := NB522_516.out
                          have hnc39 := NB516_522.out
                          have hcz40_0 : wr.cell? ⟨gb522, 0, none⟩ = some (.slice Ao16 t518.length co16) := (blk_cell BK522.out 0).trans rfl
                          have hfz40_0 := blk_frozen BK522.out 0
                          have p529 : 0 ≤ (x15_3 : Int) := of_decide_eq_true (by first | (with_reducible assumption) | assumption)
                          have q529 : x15_3 < (t518.length : Int) := of_decide_eq_true (by first | (with_reducible assumption) | assumption)
                          obtain ⟨ad529, e529, hx529_0, hx529_1, hx529_2⟩ := at_T48 (Kd.R_reads' HO_523000.out).2.2 x15_3 p529 q529
                          cases e529
                          replace p529 := eq_true p529
                          replace q529 := eq_true q529
                          have p530 : 0 ≤ (x15_3 : Int) := of_decide_eq_true (by first | (with_reducible assumption) | assumption)
                          have q530 : x15_3 < (t518.length : Int) := of_decide_eq_true (by first | (with_reducible assumption) | assumption)
                          obtain ⟨ad530, e530, hx530_0, hx530_1, hx530_2⟩ := at_T48 (Kd.R_reads' HO_523000.out).2.2 x15_3 p530 q530
                          obtain rfl : ad529 = ad530 := (by injection e530)
                          replace p530 := eq_true p530
                          replace q530 := eq_true q530
                          go_wp2
                          repeat (go_quiet (fail); try go_wp2)
                          go_roundg k3
                          case measure => have := HJ9.out; have := HK2.out; have := HK3.out; omega
                          case rel => exact ⟨(wrap64 ((wrap64 (x13_3 - ((rd_T48 t518 x15_3).f2))) + ((rd_T48 t518 x15_3).f1))), (wrap64 (x15_3 + 1)), (by first | rfl | (simp; done) | (simp [*]; done)), (by first | rfl | (simp; done) | (simp [*]; done)), H', ⟨by have := HJ9.out; have := HK2.out; have := HK3.out; omega⟩, ⟨by (with_reducible repeat (first | apply Kd.R_alloc | apply Kd.R_drewN | apply Kd.R_drew)); exact HO_523000.out⟩, ⟨by (with_reducible repeat (first | refine blk_drewN ?_ _ | refine blk_drew ?_ | refine blk_alloc ?_ _)); exact BK516.out⟩, ⟨by (with_reducible repeat (first | refine blk_drewN ?_ _ | refine blk_drew ?_ | refine blk_alloc ?_ _)); exact BK522.out⟩, ⟨by repeat (first | (with_reducible first | exact HB.out | apply below_alloc | apply pw_below_drewN | apply below_drew1 | refine below_set ?_ GE516.out | refine below_set ?_ GE522.out) | exact HB.out)⟩⟩
                        · rw [if_neg c38] at H
                          exact absurd H (by simp)
                      · rw [if_neg c37] at H
                        have c37b0 : decide (x15_3 < (t518.length : Int)) = false := decide_eq_false c37
                        clear c37
                        by_cases c41 : x13_3 = 0
                        · rw [if_pos c41] at H
                          have c41b0 : (x13_3 == 0) = true := beq_iff_eq.mpr c41
                          have c41b1 : (x13_3 != 0) = false := bne_eq_false_iff_eq.mpr c41
                          clear c41
                          by_cases c42 : a2 > a1
                          · rw [if_pos c42] at H
                            have c42b0 : decide (a1 < a2) = true := decide_eq_true c42
                            clear c42
                            obtain rfl := Option.some.inj H
                            have hnb43 := NB522_516.out
                            have hnc43 := NB516_522.out
                            have hcz44_0 : wr.cell? ⟨gb522, 0, none⟩ = some (.slice Ao16 t518.length co16) := (blk_cell BK522.out 0).trans rfl
                            have hfz44_0 := blk_frozen BK522.out 0
                            go_wp2
                            repeat (go_quiet (fail); try go_wp2)
                            go_ret
                            exact ⟨by first | rfl | (simp [errW_none, errW_some] <;> rfl) | (simp [*, errW_none, errW_some] <;> rfl), by repeat (first | (with_reducible first | exact HB.out | apply below_alloc | apply pw_below_drewN | apply below_drew1 | refine below_set ?_ GE516.out | refine below_set ?_ GE522.out) | exact HB.out)⟩
                          · rw [if_neg c42] at H
                            have c42b0 : decide (a1 < a2) = false := decide_eq_false c42
                            clear c42
                            replace H := Option.bind_eq_some_iff.mp H
                            obtain ⟨⟨t531, t534⟩, A450, H⟩ := H
                            replace H : ((pack_Joined.f l0_0 a2).bind fun bt536 => (if t534 = bt536.2 then ((snowlineref02_Same.f k3 t531 bt536.1).bind fun t541 => (some t541)) else (some false))) = some r := H
                            have A45 := Aside0.mk A450
                            clear A450
                            replace H := Option.bind_eq_some_iff.mp H
                            obtain ⟨⟨t536, t539⟩, A460, H⟩ := H
                            replace H : (if t534 = t539 then ((snowlineref02_Same.f k3 t531 t536).bind fun t541 => (some t541)) else (some false)) = some r := H
                            have A46 := Aside0.mk A460
                            clear A460
                            by_cases c47 : t534 = t539
                            · rw [if_pos c47] at H
                              have c47b0 : (t534 == t539) = true := beq_iff_eq.mpr c47
                              have c47b1 : (t534 != t539) = false := bne_eq_false_iff_eq.mpr c47
                              clear c47
                              replace H := Option.bind_eq_some_iff.mp H
                              obtain ⟨t541, A480, H⟩ := H
                              replace H : (some t541) = some r := H
                              have A48 := Aside0.mk A480
                              clear A480
                              obtain rfl := Option.some.inj H
                              have hnb49 := NB522_516.out
                              have hnc49 := NB516_522.out
                              have hcz50_0 : wr.cell? ⟨gb522, 0, none⟩ = some (.slice Ao16 t518.length co16) := (blk_cell BK522.out 0).trans rfl
                              have hfz50_0 := blk_frozen BK522.out 0
                              go_wp2_with (first | (go_at_call 29; (with_reducible refine (pack_Joined.calls _ _ t518 a2 t531 t534 _ ?side1 ?side2 A45.out).mono ?_); (case side1 => repeat (first | exact (Kd.R_reads' HO_523000.out).2.2 | (with_reducible refine Kd.C_alloc ?_ _) | (with_reducible refine Kd.C_drewN ?_ _) | (with_reducible refine Kd.C_drew ?_))); (case side2 => exact (Kd.R_reads' HO_523000.out).2.1); rintro e w51 ⟨v532, rfl, ho0, hb⟩; have n0_ := Aside0.mk (Kd.R_elder' (by (with_reducible repeat (first | apply Kd.R_alloc | apply Kd.R_drewN | apply Kd.R_drew)); exact HO_523000.out) (Kd.R_base ho0) hb); have n1_ := Aside0.mk (Kd.R_lower (Kd.R_new' ho0 (Kd.R_lt (by (with_reducible repeat (first | apply Kd.R_alloc | apply Kd.R_drewN | apply Kd.R_drew)); exact HO_523000.out))) (below_size (by repeat (first | (with_reducible first | exact HB.out | apply below_alloc | apply pw_below_drewN | apply below_drew1 | refine below_set ?_ GE516.out | refine below_set ?_ GE522.out) | exact HB.out)))); have n2_ := Aside0.mk (blk_below (g := gb516) (o := .cells #[.slice A0_0 l0_0.length c0_0] 24 (0, 0)) (by (with_reducible repeat (first | refine blk_drewN ?_ _ | refine blk_drew ?_ | refine blk_alloc ?_ _)); exact BK516.out) hb); have n3_ := Aside0.mk (blk_below (g := gb522) (o := .cells #[.slice Ao16 t518.length co16] 24 (0, 0)) (by (with_reducible repeat (first | refine blk_drewN ?_ _ | refine blk_drew ?_ | refine blk_alloc ?_ _)); exact BK522.out) hb); have n4_ := Aside0.mk (below_step (by repeat (first | (with_reducible first | exact HB.out | apply below_alloc | apply pw_below_drewN | apply below_drew1 | refine below_set ?_ GE516.out | refine below_set ?_ GE522.out) | exact HB.out)) hb); clear HO_523000; clear BK516; clear BK522; clear HB; have HO_523000 := n0_; have HO533 := n1_; have BK516 := n2_; have BK522 := n3_; have HB := n4_; clear n0_ n1_ n2_ n3_ n4_; (try clear hb); (try clear hb2); (try clear hk); (try clear hi); (try clear ho0)) | ((with_reducible refine gate_dst (N := 16) rfl ?_); (try (refine gate_guard (by rfl) ?_; dsimp only)); refine box_event ?hg (N := 16) ?hd (cs := #[.slice none 0 0]) (t := 24) ?hr ?_; (case hd => rfl); (case hg => rfl); (case hr => first | (go_simp; done) | (go_simp; rfl)); intro gb535 hg w52 hbox hb; have n0_ := Aside0.mk (Kd.R_below (by (with_reducible repeat (first | apply Kd.R_alloc | apply Kd.R_drewN | apply Kd.R_drew)); exact HO_523000.out) hb); have n1_ := Aside0.mk (Kd.R_below (by (with_reducible repeat (first | apply Kd.R_alloc | apply Kd.R_drewN | apply Kd.R_drew)); exact HO533.out) hb); have n2_ := Aside0.mk (blk_below (g := gb516) (o := .cells #[.slice A0_0 l0_0.length c0_0] 24 (0, 0)) (by (with_reducible repeat (first | refine blk_drewN ?_ _ | refine blk_drew ?_ | refine blk_alloc ?_ _)); exact BK516.out) hb); have n3_ := Aside0.mk (blk_below (g := gb522) (o := .cells #[.slice Ao16 t518.length co16] 24 (0, 0)) (by (with_reducible repeat (first | refine blk_drewN ?_ _ | refine blk_drew ?_ | refine blk_alloc ?_ _)); exact BK522.out) hb); have n4_ := Aside0.mk (below_step (by repeat (first | (with_reducible first | exact HB.out | apply below_alloc | apply pw_below_drewN | apply below_drew1 | refine below_set ?_ GE516.out | refine below_set ?_ GE522.out) | exact HB.out)) hb); have n5_ := Aside0.mk (hbox); have n6_ := Aside0.mk ((by rw [hg]; exact (below_size (by repeat (first | (with_reducible first | exact HB.out | apply below_alloc | apply pw_below_drewN | apply below_drew1 | refine below_set ?_ GE516.out | refine below_set ?_ GE522.out) | exact HB.out))) : w.heap.size ≤ gb535)); have n7_ := Aside0.mk ((by rw [hg]; exact (below_size (by repeat (first | (with_reducible first | exact HB.out | apply below_alloc | apply pw_below_drewN | apply below_drew1 | refine below_set ?_ GE516.out | refine below_set ?_ GE522.out) | exact HB.out))) : w.heap.size ≤ gb535)); have n8_ := Aside0.mk ((by rw [hg]; exact Nat.ne_of_lt (blk_lt (g := gb516) (o := .cells #[.slice A0_0 l0_0.length c0_0] 24 (0, 0)) (by (with_reducible repeat (first | refine blk_drewN ?_ _ | refine blk_drew ?_ | refine blk_alloc ?_ _)); exact BK516.out)) : gb516 ≠ gb535)); have n9_ := Aside0.mk ((by rw [hg]; exact Nat.ne_of_gt (blk_lt (g := gb516) (o := .cells #[.slice A0_0 l0_0.length c0_0] 24 (0, 0)) (by (with_reducible repeat (first | refine blk_drewN ?_ _ | refine blk_drew ?_ | refine blk_alloc ?_ _)); exact BK516.out)) : gb535 ≠ gb516)); have n10_ := Aside0.mk ((by rw [hg]; exact Nat.ne_of_lt (blk_lt (g := gb522) (o := .cells #[.slice Ao16 t518.length co16] 24 (0, 0)) (by (with_reducible repeat (first | refine blk_drewN ?_ _ | refine blk_drew ?_ | refine blk_alloc ?_ _)); exact BK522.out)) : gb522 ≠ gb535)); have n11_ := Aside0.mk ((by rw [hg]; exact Nat.ne_of_gt (blk_lt (g := gb522) (o := .cells #[.slice Ao16 t518.length co16] 24 (0, 0)) (by (with_reducible repeat (first | refine blk_drewN ?_ _ | refine blk_drew ?_ | refine blk_alloc ?_ _)); exact BK522.out)) : gb535 ≠ gb522)); clear HO_523000; clear HO533; clear BK516; clear BK522; clear HB; have HO_523000 := n0_; have HO533 := n1_; have BK516 := n2_; have BK522 := n3_; have HB := n4_; have BK535 := n5_; have GW535 := n6_; have GE535 := n7_; have NB516_535 := n8_; have NB535_516 := n9_; have NB522_535 := n10_; have NB535_522 := n11_; clear n0_ n1_ n2_ n3_ n4_ n5_ n6_ n7_ n8_ n9_ n10_ n11_; clear hb hbox hg; obtain ⟨Ao53, co53, eo53⟩ := Kd.R_slice HO533.out; subst eo53; have hnb54 := NB535_516.out; have hnc54 := NB516_535.out; have hnb55 := NB535_522.out; have hnc55 := NB522_535.out; have hcz56_0 : w52.cell? ⟨gb535, 0, none⟩ = some (.slice none 0 0) := (blk_cell BK535.out 0).trans rfl; have hfz56_0 := blk_frozen BK535.out 0; have hcz57_0 : w52.cell? ⟨gb516, 0, none⟩ = some (.slice A0_0 l0_0.length c0_0) := (blk_cell BK516.out 0).trans rfl; have hfz57_0 := blk_frozen BK516.out 0) | (go_at_call 29; (with_reducible refine (pack_Joined.calls _ _ l0_0 a2 t536 t539 _ ?side1 ?side2 A46.out).mono ?_); (case side1 => exact Kd.C_below HR0_0.out (by repeat (first | (with_reducible first | exact HB.out | apply below_alloc | apply pw_below_drewN | apply below_drew1 | refine below_set ?_ GE516.out | refine below_set ?_ GE522.out | refine below_set ?_ GE535.out) | exact HB.out))); (case side2 => exact HC0_0.out); rintro e w58 ⟨v537, rfl, ho0, hb⟩; have n0_ := Aside0.mk (Kd.R_elder' (by (with_reducible repeat (first | apply Kd.R_alloc | apply Kd.R_drewN | apply Kd.R_drew)); exact (Kd.R_mono (Kd.R_far (p := ⟨gb535, 0, none⟩) (Kd.R_types HO_523000.out BK535.out (by decide)) (fun _ hk => hk.2) (.slice Ao53 t531.length co53)) (fun _ h_ => h_.1))) (Kd.R_base ho0) hb); have n1_ := Aside0.mk (Kd.R_elder' (by (with_reducible repeat (first | apply Kd.R_alloc | apply Kd.R_drewN | apply Kd.R_drew)); exact (Kd.R_mono (Kd.R_far (p := ⟨gb535, 0, none⟩) (Kd.R_types HO533.out BK535.out (by decide)) (fun _ hk => hk.2) (.slice Ao53 t531.length co53)) (fun _ h_ => h_.1))) (Kd.R_base ho0) hb); have n2_ := Aside0.mk (Kd.R_lower (Kd.R_new' (Kd.R_new' ho0 (Kd.R_lt (by (with_reducible repeat (first | apply Kd.R_alloc | apply Kd.R_drewN | apply Kd.R_drew)); exact (Kd.R_mono (Kd.R_far (p := ⟨gb535, 0, none⟩) (Kd.R_types HO_523000.out BK535.out (by decide)) (fun _ hk => hk.2) (.slice Ao53 t531.length co53)) (fun _ h_ => h_.1))))) (Kd.R_lt (by (with_reducible repeat (first | apply Kd.R_alloc | apply Kd.R_drewN | apply Kd.R_drew)); exact (Kd.R_mono (Kd.R_far (p := ⟨gb535, 0, none⟩) (Kd.R_types HO533.out BK535.out (by decide)) (fun _ hk => hk.2) (.slice Ao53 t531.length co53)) (fun _ h_ => h_.1))))) (below_size (by repeat (first | (with_reducible first | exact HB.out | apply below_alloc | apply pw_below_drewN | apply below_drew1 | refine below_set ?_ GE516.out | refine below_set ?_ GE522.out | refine below_set ?_ GE535.out) | exact HB.out)))); have n3_ := Aside0.mk (blk_below (g := gb516) (o := .cells #[.slice A0_0 l0_0.length c0_0] 24 (0, 0)) (by (with_reducible repeat (first | refine blk_drewN ?_ _ | refine blk_drew ?_ | refine blk_alloc ?_ _)); refine blk_far ?_ NB516_535.out _; (with_reducible repeat (first | refine blk_drewN ?_ _ | refine blk_drew ?_ | refine blk_alloc ?_ _)); exact BK516.out) hb); have n4_ := Aside0.mk (blk_below (g := gb522) (o := .cells #[.slice Ao16 t518.length co16] 24 (0, 0)) (by (with_reducible repeat (first | refine blk_drewN ?_ _ | refine blk_drew ?_ | refine blk_alloc ?_ _)); refine blk_far ?_ NB522_535.out _; (with_reducible repeat (first | refine blk_drewN ?_ _ | refine blk_drew ?_ | refine blk_alloc ?_ _)); exact BK522.out) hb); have n5_ := Aside0.mk (blk_below (g := gb535) (o := .cells #[.slice Ao53 t531.length co53] 24 (0, 0)) (by (with_reducible repeat (first | refine blk_drewN ?_ _ | refine blk_drew ?_ | refine blk_alloc ?_ _)); refine blk_put (cs := #[.slice none 0 0]) ?_ 0 _ rfl; (with_reducible repeat (first | refine blk_drewN ?_ _ | refine blk_drew ?_ | refine blk_alloc ?_ _)); exact BK535.out) hb); have n6_ := Aside0.mk (below_step (by repeat (first | (with_reducible first | exact HB.out | apply below_alloc | apply pw_below_drewN | apply below_drew1 | refine below_set ?_ GE516.out | refine below_set ?_ GE522.out | refine below_set ?_ GE535.out) | exact HB.out)) hb); clear HO_523000; clear HO533; clear BK516; clear BK522; clear BK535; clear HB; have HO_523000 := n0_; have HO533 := n1_; have HO538 := n2_; have BK516 := n3_; have BK522 := n4_; have BK535 := n5_; have HB := n6_; clear n0_ n1_ n2_ n3_ n4_ n5_ n6_; (try clear hb); (try clear hb2); (try clear hk); (try clear hi); (try clear ho0)) | ((with_reducible refine gate_dst (N := 18) rfl ?_); (try (refine gate_guard (by rfl) ?_; dsimp only)); refine box_event ?hg (N := 18) ?hd (cs := #[.slice none 0 0]) (t := 24) ?hr ?_; (case hd => rfl); (case hg => rfl); (case hr => first | (go_simp; done) | (go_simp; rfl)); intro gb540 hg w59 hbox hb; have n0_ := Aside0.mk (Kd.R_below (by (with_reducible repeat (first | apply Kd.R_alloc | apply Kd.R_drewN | apply Kd.R_drew)); exact HO_523000.out) hb); have n1_ := Aside0.mk (Kd.R_below (by (with_reducible repeat (first | apply Kd.R_alloc | apply Kd.R_drewN | apply Kd.R_drew)); exact HO533.out) hb); have n2_ := Aside0.mk (Kd.R_below (by (with_reducible repeat (first | apply Kd.R_alloc | apply Kd.R_drewN | apply Kd.R_drew)); exact HO538.out) hb); have n3_ := Aside0.mk (blk_below (g := gb516) (o := .cells #[.slice A0_0 l0_0.length c0_0] 24 (0, 0)) (by (with_reducible repeat (first | refine blk_drewN ?_ _ | refine blk_drew ?_ | refine blk_alloc ?_ _)); exact BK516.out) hb); have n4_ := Aside0.mk (blk_below (g := gb522) (o := .cells #[.slice Ao16 t518.length co16] 24 (0, 0)) (by (with_reducible repeat (first | refine blk_drewN ?_ _ | refine blk_drew ?_ | refine blk_alloc ?_ _)); exact BK522.out) hb); have n5_ := Aside0.mk (blk_below (g := gb535) (o := .cells #[.slice Ao53 t531.length co53] 24 (0, 0)) (by (with_reducible repeat (first | refine blk_drewN ?_ _ | refine blk_drew ?_ | refine blk_alloc ?_ _)); exact BK535.out) hb); have n6_ := Aside0.mk (below_step (by repeat (first | (with_reducible first | exact HB.out | apply below_alloc | apply pw_below_drewN | apply below_drew1 | refine below_set ?_ GE516.out | refine below_set ?_ GE522.out | refine below_set ?_ GE535.out) | exact HB.out)) hb); have n7_ := Aside0.mk (hbox); have n8_ := Aside0.mk ((by rw [hg]; exact (below_size (by repeat (first | (with_reducible first | exact HB.out | apply below_alloc | apply pw_below_drewN | apply below_drew1 | refine below_set ?_ GE516.out | refine below_set ?_ GE522.out | refine below_set ?_ GE535.out) | exact HB.out))) : w.heap.size ≤ gb540)); have n9_ := Aside0.mk ((by rw [hg]; exact (below_size (by repeat (first | (with_reducible first | exact HB.out | apply below_alloc | apply pw_below_drewN | apply below_drew1 | refine below_set ?_ GE516.out | refine below_set ?_ GE522.out | refine below_set ?_ GE535.out) | exact HB.out))) : w.heap.size ≤ gb540)); have n10_ := Aside0.mk ((by rw [hg]; exact Nat.ne_of_lt (blk_lt (g := gb516) (o := .cells #[.slice A0_0 l0_0.length c0_0] 24 (0, 0)) (by (with_reducible repeat (first | refine blk_drewN ?_ _ | refine blk_drew ?_ | refine blk_alloc ?_ _)); exact BK516.out)) : gb516 ≠ gb540)); have n11_ := Aside0.mk ((by rw [hg]; exact Nat.ne_of_gt (blk_lt (g := gb516) (o := .cells #[.slice A0_0 l0_0.length c0_0] 24 (0, 0)) (by (with_reducible repeat (first | refine blk_drewN ?_ _ | refine blk_drew ?_ | refine blk_alloc ?_ _)); exact BK516.out)) : gb540 ≠ gb516)); have n12_ := Aside0.mk ((by rw [hg]; exact Nat.ne_of_lt (blk_lt (g := gb522) (o := .cells #[.slice Ao16 t518.length co16] 24 (0, 0)) (by (with_reducible repeat (first | refine blk_drewN ?_ _ | refine blk_drew ?_ | refine blk_alloc ?_ _)); exact BK522.out)) : gb522 ≠ gb540)); have n13_ := Aside0.mk ((by rw [hg]; exact Nat.ne_of_gt (blk_lt (g := gb522) (o := .cells #[.slice Ao16 t518.length co16] 24 (0, 0)) (by (with_reducible repeat (first | refine blk_drewN ?_ _ | refine blk_drew ?_ | refine blk_alloc ?_ _)); exact BK522.out)) : gb540 ≠ gb522)); have n14_ := Aside0.mk ((by rw [hg]; exact Nat.ne_of_lt (blk_lt (g := gb535) (o := .cells #[.slice Ao53 t531.length co53] 24 (0, 0)) (by (with_reducible repeat (first | refine blk_drewN ?_ _ | refine blk_drew ?_ | refine blk_alloc ?_ _)); exact BK535.out)) : gb535 ≠ gb540)); have n15_ := Aside0.mk ((by rw [hg]; exact Nat.ne_of_gt (blk_lt (g := gb535) (o := .cells #[.slice Ao53 t531.length co53] 24 (0, 0)) (by (with_reducible repeat (first | refine blk_drewN ?_ _ | refine blk_drew ?_ | refine blk_alloc ?_ _)); exact BK535.out)) : gb540 ≠ gb535)); clear HO_523000; clear HO533; clear HO538; clear BK516; clear BK522; clear BK535; clear HB; have HO_523000 := n0_; have HO533 := n1_; have HO538 := n2_; have BK516 := n3_; have BK522 := n4_; have BK535 := n5_; have HB := n6_; have BK540 := n7_; have GW540 := n8_; have GE540 := n9_; have NB516_540 := n10_; have NB540_516 := n11_; have NB522_540 := n12_; have NB540_522 := n13_; have NB535_540 := n14_; have NB540_535 := n15_; clear n0_ n1_ n2_ n3_ n4_ n5_ n6_ n7_ n8_ n9_ n10_ n11_ n12_ n13_ n14_ n15_; clear hb hbox hg; obtain ⟨Ao60, co60, eo60⟩ := Kd.R_slice HO538.out; subst eo60; have hnb61 := NB540_516.out; have hnc61 := NB516_540.out; have hnb62 := NB540_522.out; have hnc62 := NB522_540.out; have hnb63 := NB540_535.out; have hnc63 := NB535_540.out; have hcz64_0 : w59.cell? ⟨gb540, 0, none⟩ = some (.slice none 0 0) := (blk_cell BK540.out 0).trans rfl; have hfz64_0 := blk_frozen BK540.out 0; have hcz65_0 : w59.cell? ⟨gb535, 0, none⟩ = some (.slice Ao53 t531.length co53) := (blk_cell BK535.out 0).trans rfl; have hfz65_0 := blk_frozen BK535.out 0) | (go_at_call 23; (with_reducible refine (snowlineref02_Same.calls k3 _ _ t531 _ _ t536 t541 _ ?side1 ?side2 ?side3 ?side4 A48.out).mono ?_); (case side1 => refine (Kd.R_reads' (e := 48) (base := w.heap.size) (ok := fun k_ => ((True ∧ some k_ ≠ (.slice Ao16 t518.length co16 : Value).ownBlock) ∧ some k_ ≠ (.slice Ao60 t536.length co60 : Value).ownBlock)) (n := t531.length) (c := co53) ?_).2.2; exact (by (with_reducible repeat (first | apply Kd.R_alloc | apply Kd.R_drewN | apply Kd.R_drew)); exact (Kd.R_mono (Kd.R_far (p := ⟨gb540, 0, none⟩) (Kd.R_types HO533.out BK540.out (by decide)) (fun _ hk => hk.2) (.slice Ao60 t536.length co60)) (fun _ h_ => h_.1)))); (case side2 => exact (Kd.R_reads' HO533.out).2.1); (case side3 => refine (Kd.R_reads' (e := 48) (base := w.heap.size) (ok := fun k_ => ((True ∧ some k_ ≠ (.slice Ao16 t518.length co16 : Value).ownBlock) ∧ some k_ ≠ (.slice Ao53 t531.length co53 : Value).ownBlock)) (n := t536.length) (c := co60) ?_).2.2; exact (by (with_reducible repeat (first | apply Kd.R_alloc | apply Kd.R_drewN | apply Kd.R_drew)); exact (Kd.R_mono (Kd.R_far (p := ⟨gb540, 0, none⟩) (Kd.R_types HO538.out BK540.out (by decide)) (fun _ hk => hk.2) (.slice Ao60 t536.length co60)) (fun _ h_ => h_.1)))); (case side4 => exact (Kd.R_reads' HO538.out).2.1); rintro e w66 ⟨rfl, hb⟩; have n0_ := Aside0.mk (Kd.R_below (by (with_reducible repeat (first | apply Kd.R_alloc | apply Kd.R_drewN | apply Kd.R_drew)); exact (Kd.R_mono (Kd.R_far (p := ⟨gb540, 0, none⟩) (Kd.R_types HO_523000.out BK540.out (by decide)) (fun _ hk => hk.2) (.slice Ao60 t536.length co60)) (fun _ h_ => h_.1))) hb); have n1_ := Aside0.mk (Kd.R_below (by (with_reducible repeat (first | apply Kd.R_alloc | apply Kd.R_drewN | apply Kd.R_drew)); exact (Kd.R_mono (Kd.R_far (p := ⟨gb540, 0, none⟩) (Kd.R_types HO533.out BK540.out (by decide)) (fun _ hk => hk.2) (.slice Ao60 t536.length co60)) (fun _ h_ => h_.1))) hb); have n2_ := Aside0.mk (Kd.R_below (by (with_reducible repeat (first | apply Kd.R_alloc | apply Kd.R_drewN | apply Kd.R_drew)); exact (Kd.R_mono (Kd.R_far (p := ⟨gb540, 0, none⟩) (Kd.R_types HO538.out BK540.out (by decide)) (fun _ hk => hk.2) (.slice Ao60 t536.length co60)) (fun _ h_ => h_.1))) hb); have n3_ := Aside0.mk (blk_below (g := gb516) (o := .cells #[.slice A0_0 l0_0.length c0_0] 24 (0, 0)) (by (with_reducible repeat (first | refine blk_drewN ?_ _ | refine blk_drew ?_ | refine blk_alloc ?_ _)); refine blk_far ?_ NB516_540.out _; (with_reducible repeat (first | refine blk_drewN ?_ _ | refine blk_drew ?_ | refine blk_alloc ?_ _)); exact BK516.out) hb); have n4_ := Aside0.mk (blk_below (g := gb522) (o := .cells #[.slice Ao16 t518.length co16] 24 (0, 0)) (by (with_reducible repeat (first | refine blk_drewN ?_ _ | refine blk_drew ?_ | refine blk_alloc ?_ _)); refine blk_far ?_ NB522_540.out _; (with_reducible repeat (first | refine blk_drewN ?_ _ | refine blk_drew ?_ | refine blk_alloc ?_ _)); exact BK522.out) hb); have n5_ := Aside0.mk (blk_below (g := gb535) (o := .cells #[.slice Ao53 t531.length co53] 24 (0, 0)) (by (with_reducible repeat (first | refine blk_drewN ?_ _ | refine blk_drew ?_ | refine blk_alloc ?_ _)); refine blk_far ?_ NB535_540.out _; (with_reducible repeat (first | refine blk_drewN ?_ _ | refine blk_drew ?_ | refine blk_alloc ?_ _)); exact BK535.out) hb); have n6_ := Aside0.mk (blk_below (g := gb540) (o := .cells #[.slice Ao60 t536.length co60] 24 (0, 0)) (by (with_reducible repeat (first | refine blk_drewN ?_ _ | refine blk_drew ?_ | refine blk_alloc ?_ _)); refine blk_put (cs := #[.slice none 0 0]) ?_ 0 _ rfl; (with_reducible repeat (first | refine blk_drewN ?_ _ | refine blk_drew ?_ | refine blk_alloc ?_ _)); exact BK540.out) hb); have n7_ := Aside0.mk (below_step (by repeat (first | (with_reducible first | exact HB.out | apply below_alloc | apply pw_below_drewN | apply below_drew1 | refine below_set ?_ GE516.out | refine below_set ?_ GE522.out | refine below_set ?_ GE535.out | refine below_set ?_ GE540.out) | exact HB.out)) hb); clear HO_523000; clear HO533; clear HO538; clear BK516; clear BK522; clear BK535; clear BK540; clear HB; have HO_523000 := n0_; have HO533 := n1_; have HO538 := n2_; have BK516 := n3_; have BK522 := n4_; have BK535 := n5_; have BK540 := n6_; have HB := n7_; clear n0_ n1_ n2_ n3_ n4_ n5_ n6_ n7_; (try clear hb); (try clear hb2); (try clear hk); (try clear hi)))
                              repeat (go_quiet (first | (go_at_call 29; (with_reducible refine (pack_Joined.calls _ _ t518 a2 t531 t534 _ ?side1 ?side2 A45.out).mono ?_); (case side1 => repeat (first | exact (Kd.R_reads' HO_523000.out).2.2 | (with_reducible refine Kd.C_alloc ?_ _) | (with_reducible refine Kd.C_drewN ?_ _) | (with_reducible refine Kd.C_drew ?_))); (case side2 => exact (Kd.R_reads' HO_523000.out).2.1); rintro e w51 ⟨v532, rfl, ho0, hb⟩; have n0_ := Aside0.mk (Kd.R_elder' (by (with_reducible repeat (first | apply Kd.R_alloc | apply Kd.R_drewN | apply Kd.R_drew)); exact HO_523000.out) (Kd.R_base ho0) hb); have n1_ := Aside0.mk (Kd.R_lower (Kd.R_new' ho0 (Kd.R_lt (by (with_reducible repeat (first | apply Kd.R_alloc | apply Kd.R_drewN | apply Kd.R_drew)); exact HO_523000.out))) (below_size (by repeat (first | (with_reducible first | exact HB.out | apply below_alloc | apply pw_below_drewN | apply below_drew1 | refine below_set ?_ GE516.out | refine below_set ?_ GE522.out) | exact HB.out)))); have n2_ := Aside0.mk (blk_below (g := gb516) (o := .cells #[.slice A0_0 l0_0.length c0_0] 24 (0, 0)) (by (with_reducible repeat (first | refine blk_drewN ?_ _ | refine blk_drew ?_ | refine blk_alloc ?_ _)); exact BK516.out) hb); have n3_ := Aside0.mk (blk_below (g := gb522) (o := .cells #[.slice Ao16 t518.length co16] 24 (0, 0)) (by (with_reducible repeat (first | refine blk_drewN ?_ _ | refine blk_drew ?_ | refine blk_alloc ?_ _)); exact BK522.out) hb); have n4_ := Aside0.mk (below_step (by repeat (first | (with_reducible first | exact HB.out | apply below_alloc | apply pw_below_drewN | apply below_drew1 | refine below_set ?_ GE516.out | refine below_set ?_ GE522.out) | exact HB.out)) hb); clear HO_523000; clear BK516; clear BK522; clear HB; have HO_523000 := n0_; have HO533 := n1_; have BK516 := n2_; have BK522 := n3_; have HB := n4_; clear n0_ n1_ n2_ n3_ n4_; (try clear hb); (try clear hb2); (try clear hk); (try clear hi); (try clear ho0)) | ((with_reducible refine gate_dst (N := 16) rfl ?_); (try (refine gate_guard (by rfl) ?_; dsimp only)); refine box_event ?hg (N := 16) ?hd (cs := #[.slice none 0 0]) (t := 24) ?hr ?_; (case hd => rfl); (case hg => rfl); (case hr => first | (go_simp; done) | (go_simp; rfl)); intro gb535 hg w52 hbox hb; have n0_ := Aside0.mk (Kd.R_below (by (with_reducible repeat (first | apply Kd.R_alloc | apply Kd.R_drewN | apply Kd.R_drew)); exact HO_523000.out) hb); have n1_ := Aside0.mk (Kd.R_below (by (with_reducible repeat (first | apply Kd.R_alloc | apply Kd.R_drewN | apply Kd.R_drew)); exact HO533.out) hb); have n2_ := Aside0.mk (blk_below (g := gb516) (o := .cells #[.slice A0_0 l0_0.length c0_0] 24 (0, 0)) (by (with_reducible repeat (first | refine blk_drewN ?_ _ | refine blk_drew ?_ | refine blk_alloc ?_ _)); exact BK516.out) hb); have n3_ := Aside0.mk (blk_below (g := gb522) (o := .cells #[.slice Ao16 t518.length co16] 24 (0, 0)) (by (with_reducible repeat (first | refine blk_drewN ?_ _ | refine blk_drew ?_ | refine blk_alloc ?_ _)); exact BK522.out) hb); have n4_ := Aside0.mk (below_step (by repeat (first | (with_reducible first | exact HB.out | apply below_alloc | apply pw_below_drewN | apply below_drew1 | refine below_set ?_ GE516.out | refine below_set ?_ GE522.out) | exact HB.out)) hb); have n5_ := Aside0.mk (hbox); have n6_ := Aside0.mk ((by rw [hg]; exact (below_size (by repeat (first | (with_reducible first | exact HB.out | apply below_alloc | apply pw_below_drewN | apply below_drew1 | refine below_set ?_ GE516.out | refine below_set ?_ GE522.out) | exact HB.out))) : w.heap.size ≤ gb535)); have n7_ := Aside0.mk ((by rw [hg]; exact (below_size (by repeat (first | (with_reducible first | exact HB.out | apply below_alloc | apply pw_below_drewN | apply below_drew1 | refine below_set ?_ GE516.out | refine below_set ?_ GE522.out) | exact HB.out))) : w.heap.size ≤ gb535)); have n8_ := Aside0.mk ((by rw [hg]; exact Nat.ne_of_lt (blk_lt (g := gb516) (o := .cells #[.slice A0_0 l0_0.length c0_0] 24 (0, 0)) (by (with_reducible repeat (first | refine blk_drewN ?_ _ | refine blk_drew ?_ | refine blk_alloc ?_ _)); exact BK516.out)) : gb516 ≠ gb535)); have n9_ := Aside0.mk ((by rw [hg]; exact Nat.ne_of_gt (blk_lt (g := gb516) (o := .cells #[.slice A0_0 l0_0.length c0_0] 24 (0, 0)) (by (with_reducible repeat (first | refine blk_drewN ?_ _ | refine blk_drew ?_ | refine blk_alloc ?_ _)); exact BK516.out)) : gb535 ≠ gb516)); have n10_ := Aside0.mk ((by rw [hg]; exact Nat.ne_of_lt (blk_lt (g := gb522) (o := .cells #[.slice Ao16 t518.length co16] 24 (0, 0)) (by (with_reducible repeat (first | refine blk_drewN ?_ _ | refine blk_drew ?_ | refine blk_alloc ?_ _)); exact BK522.out)) : gb522 ≠ gb535)); have n11_ := Aside0.mk ((by rw [hg]; exact Nat.ne_of_gt (blk_lt (g := gb522) (o := .cells #[.slice Ao16 t518.length co16] 24 (0, 0)) (by (with_reducible repeat (first | refine blk_drewN ?_ _ | refine blk_drew ?_ | refine blk_alloc ?_ _)); exact BK522.out)) : gb535 ≠ gb522)); clear HO_523000; clear HO533; clear BK516; clear BK522; clear HB; have HO_523000 := n0_; have HO533 := n1_; have BK516 := n2_; have BK522 := n3_; have HB := n4_; have BK535 := n5_; have GW535 := n6_; have GE535 := n7_; have NB516_535 := n8_; have NB535_516 := n9_; have NB522_535 := n10_; have NB535_522 := n11_; clear n0_ n1_ n2_ n3_ n4_ n5_ n6_ n7_ n8_ n9_ n10_ n11_; clear hb hbox hg; obtain ⟨Ao53, co53, eo53⟩ := Kd.R_slice HO533.out; subst eo53; have hnb54 := NB535_516.out; have hnc54 := NB516_535.out; have hnb55 := NB535_522.out; have hnc55 := NB522_535.out; have hcz56_0 : w52.cell? ⟨gb535, 0, none⟩ = some (.slice none 0 0) := (blk_cell BK535.out 0).trans rfl; have hfz56_0 := blk_frozen BK535.out 0; have hcz57_0 : w52.cell? ⟨gb516, 0, none⟩ = some (.slice A0_0 l0_0.length c0_0) := (blk_cell BK516.out 0).trans rfl; have hfz57_0 := blk_frozen BK516.out 0) | (go_at_call 29; (with_reducible refine (pack_Joined.calls _ _ l0_0 a2 t536 t539 _ ?side1 ?side2 A46.out).mono ?_); (case side1 => exact Kd.C_below HR0_0.out (by repeat (first | (with_reducible first | exact HB.out | apply below_alloc | apply pw_below_drewN | apply below_drew1 | refine below_set ?_ GE516.out | refine below_set ?_ GE522.out | refine below_set ?_ GE535.out) | exact HB.out))); (case side2 => exact HC0_0.out); rintro e w58 ⟨v537, rfl, ho0, hb⟩; have n0_ := Aside0.mk (Kd.R_elder' (by (with_reducible repeat (first | apply Kd.R_alloc | apply Kd.R_drewN | apply Kd.R_drew)); exact (Kd.R_mono (Kd.R_far (p := ⟨gb535, 0, none⟩) (Kd.R_types HO_523000.out BK535.out (by decide)) (fun _ hk => hk.2) (.slice Ao53 t531.length co53)) (fun _ h_ => h_.1))) (Kd.R_base ho0) hb); have n1_ := Aside0.mk (Kd.R_elder' (by (with_reducible repeat (first | apply Kd.R_alloc | apply Kd.R_drewN | apply Kd.R_drew)); exact (Kd.R_mono (Kd.R_far (p := ⟨gb535, 0, none⟩) (Kd.R_types HO533.out BK535.out (by decide)) (fun _ hk => hk.2) (.slice Ao53 t531.length co53)) (fun _ h_ => h_.1))) (Kd.R_base ho0) hb); have n2_ := Aside0.mk (Kd.R_lower (Kd.R_new' (Kd.R_new' ho0 (Kd.R_lt (by (with_reducible repeat (first | apply Kd.R_alloc | apply Kd.R_drewN | apply Kd.R_drew)); exact (Kd.R_mono (Kd.R_far (p := ⟨gb535, 0, none⟩) (Kd.R_types HO_523000.out BK535.out (by decide)) (fun _ hk => hk.2) (.slice Ao53 t531.length co53)) (fun _ h_ => h_.1))))) (Kd.R_lt (by (with_reducible repeat (first | apply Kd.R_alloc | apply Kd.R_drewN | apply Kd.R_drew)); exact (Kd.R_mono (Kd.R_far (p := ⟨gb535, 0, none⟩) (Kd.R_types HO533.out BK535.out (by decide)) (fun _ hk => hk.2) (.slice Ao53 t531.length co53)) (fun _ h_ => h_.1))))) (below_size (by repeat (first | (with_reducible first | exact HB.out | apply below_alloc | apply pw_below_drewN | apply below_drew1 | refine below_set ?_ GE516.out | refine below_set ?_ GE522.out | refine below_set ?_ GE535.out) | exact HB.out)))); have n3_ := Aside0.mk (blk_below (g := gb516) (o := .cells #[.slice A0_0 l0_0.length c0_0] 24 (0, 0)) (by (with_reducible repeat (first | refine blk_drewN ?_ _ | refine blk_drew ?_ | refine blk_alloc ?_ _)); refine blk_far ?_ NB516_535.out _; (with_reducible repeat (first | refine blk_drewN ?_ _ | refine blk_drew ?_ | refine blk_alloc ?_ _)); exact BK516.out) hb); have n4_ := Aside0.mk (blk_below (g := gb522) (o := .cells #[.slice Ao16 t518.length co16] 24 (0, 0)) (by (with_reducible repeat (first | refine blk_drewN ?_ _ | refine blk_drew ?_ | refine blk_alloc ?_ _)); refine blk_far ?_ NB522_535.out _; (with_reducible repeat (first | refine blk_drewN ?_ _ | refine blk_drew ?_ | refine blk_alloc ?_ _)); exact BK522.out) hb); have n5_ := Aside0.mk (blk_below (g := gb535) (o := .cells #[.slice Ao53 t531.length co53] 24 (0, 0)) (by (with_reducible repeat (first | refine blk_drewN ?_ _ | refine blk_drew ?_ | refine blk_alloc ?_ _)); refine blk_put (cs := #[.slice none 0 0]) ?_ 0 _ rfl; (with_reducible repeat (first | refine blk_drewN ?_ _ | refine blk_drew ?_ | refine blk_alloc ?_ _)); exact BK535.out) hb); have n6_ := Aside0.mk (below_step (by repeat (first | (with_reducible first | exact HB.out | apply below_alloc | apply pw_below_drewN | apply below_drew1 | refine below_set ?_ GE516.out | refine below_set ?_ GE522.out | refine below_set ?_ GE535.out) | exact HB.out)) hb); clear HO_523000; clear HO533; clear BK516; clear BK522; clear BK535; clear HB; have HO_523000 := n0_; have HO533 := n1_; have HO538 := n2_; have BK516 := n3_; have BK522 := n4_; have BK535 := n5_; have HB := n6_; clear n0_ n1_ n2_ n3_ n4_ n5_ n6_; (try clear hb); (try clear hb2); (try clear hk); (try clear hi); (try clear ho0)) | ((with_reducible refine gate_dst (N := 18) rfl ?_); (try (refine gate_guard (by rfl) ?_; dsimp only)); refine box_event ?hg (N := 18) ?hd (cs := #[.slice none 0 0]) (t := 24) ?hr ?_; (case hd => rfl); (case hg => rfl); (case hr => first | (go_simp; done) | (go_simp; rfl)); intro gb540 hg w59 hbox hb; have n0_ := Aside0.mk (Kd.R_below (by (with_reducible repeat (first | apply Kd.R_alloc | apply Kd.R_drewN | apply Kd.R_drew)); exact HO_523000.out) hb); have n1_ := Aside0.mk (Kd.R_below (by (with_reducible repeat (first | apply Kd.R_alloc | apply Kd.R_drewN | apply Kd.R_drew)); exact HO533.out) hb); have n2_ := Aside0.mk (Kd.R_below (by (with_reducible repeat (first | apply Kd.R_alloc | apply Kd.R_drewN | apply Kd.R_drew)); exact HO538.out) hb); have n3_ := Aside0.mk (blk_below (g := gb516) (o := .cells #[.slice A0_0 l0_0.length c0_0] 24 (0, 0)) (by (with_reducible repeat (first | refine blk_drewN ?_ _ | refine blk_drew ?_ | refine blk_alloc ?_ _)); exact BK516.out) hb); have n4_ := Aside0.mk (blk_below (g := gb522) (o := .cells #[.slice Ao16 t518.length co16] 24 (0, 0)) (by (with_reducible repeat (first | refine blk_drewN ?_ _ | refine blk_drew ?_ | refine blk_alloc ?_ _)); exact BK522.out) hb); have n5_ := Aside0.mk (blk_below (g := gb535) (o := .cells #[.slice Ao53 t531.length co53] 24 (0, 0)) (by (with_reducible repeat (first | refine blk_drewN ?_ _ | refine blk_drew ?_ | refine blk_alloc ?_ _)); exact BK535.out) hb); have n6_ := Aside0.mk (below_step (by repeat (first | (with_reducible first | exact HB.out | apply below_alloc | apply pw_below_drewN | apply below_drew1 | refine below_set ?_ GE516.out | refine below_set ?_ GE522.out | refine below_set ?_ GE535.out) | exact HB.out)) hb); have n7_ := Aside0.mk (hbox); have n8_ := Aside0.mk ((by rw [hg]; exact (below_size (by repeat (first | (with_reducible first | exact HB.out | apply below_alloc | apply pw_below_drewN | apply below_drew1 | refine below_set ?_ GE516.out | refine below_set ?_ GE522.out | refine below_set ?_ GE535.out) | exact HB.out))) : w.heap.size ≤ gb540)); have n9_ := Aside0.mk ((by rw [hg]; exact (below_size (by repeat (first | (with_reducible first | exact HB.out | apply below_alloc | apply pw_below_drewN | apply below_drew1 | refine below_set ?_ GE516.out | refine below_set ?_ GE522.out | refine below_set ?_ GE535.out) | exact HB.out))) : w.heap.size ≤ gb540)); have n10_ := Aside0.mk ((by rw [hg]; exact Nat.ne_of_lt (blk_lt (g := gb516) (o := .cells #[.slice A0_0 l0_0.length c0_0] 24 (0, 0)) (by (with_reducible repeat (first | refine blk_drewN ?_ _ | refine blk_drew ?_ | refine blk_alloc ?_ _)); exact BK516.out)) : gb516 ≠ gb540)); have n11_ := Aside0.mk ((by rw [hg]; exact Nat.ne_of_gt (blk_lt (g := gb516) (o := .cells #[.slice A0_0 l0_0.length c0_0] 24 (0, 0)) (by (with_reducible repeat (first | refine blk_drewN ?_ _ | refine blk_drew ?_ | refine blk_alloc ?_ _)); exact BK516.out)) : gb540 ≠ gb516)); have n12_ := Aside0.mk ((by rw [hg]; exact Nat.ne_of_lt (blk_lt (g := gb522) (o := .cells #[.slice Ao16 t518.length co16] 24 (0, 0)) (by (with_reducible repeat (first | refine blk_drewN ?_ _ | refine blk_drew ?_ | refine blk_alloc ?_ _)); exact BK522.out)) : gb522 ≠ gb540)); have n13_ := Aside0.mk ((by rw [hg]; exact Nat.ne_of_gt (blk_lt (g := gb522) (o := .cells #[.slice Ao16 t518.length co16] 24 (0, 0)) (by (with_reducible repeat (first | refine blk_drewN ?_ _ | refine blk_drew ?_ | refine blk_alloc ?_ _)); exact BK522.out)) : gb540 ≠ gb522)); have n14_ := Aside0.mk ((by rw [hg]; exact Nat.ne_of_lt (blk_lt (g := gb535) (o := .cells #[.slice Ao53 t531.length co53] 24 (0, 0)) (by (with_reducible repeat (first | refine blk_drewN ?_ _ | refine blk_drew ?_ | refine blk_alloc ?_ _)); exact BK535.out)) : gb535 ≠ gb540)); have n15_ := Aside0.mk ((by rw [hg]; exact Nat.ne_of_gt (blk_lt (g := gb535) (o := .cells #[.slice Ao53 t531.length co53] 24 (0, 0)) (by (with_reducible repeat (first | refine blk_drewN ?_ _ | refine blk_drew ?_ | refine blk_alloc ?_ _)); exact BK535.out)) : gb540 ≠ gb535)); clear HO_523000; clear HO533; clear HO538; clear BK516; clear BK522; clear BK535; clear HB; have HO_523000 := n0_; have HO533 := n1_; have HO538 := n2_; have BK516 := n3_; have BK522 := n4_; have BK535 := n5_; have HB := n6_; have BK540 := n7_; have GW540 := n8_; have GE540 := n9_; have NB516_540 := n10_; have NB540_516 := n11_; have NB522_540 := n12_; have NB540_522 := n13_; have NB535_540 := n14_; have NB540_535 := n15_; clear n0_ n1_ n2_ n3_ n4_ n5_ n6_ n7_ n8_ n9_ n10_ n11_ n12_ n13_ n14_ n15_; clear hb hbox hg; obtain ⟨Ao60, co60, eo60⟩ := Kd.R_slice HO538.out; subst eo60; have hnb61 := NB540_516.out; have hnc61 := NB516_540.out; have hnb62 := NB540_522.out; have hnc62 := NB522_540.out; have hnb63 := NB540_535.out; have hnc63 := NB535_540.out; have hcz64_0 : w59.cell? ⟨gb540, 0, none⟩ = some (.slice none 0 0) := (blk_cell BK540.out 0).trans rfl; have hfz64_0 := blk_frozen BK540.out 0; have hcz65_0 : w59.cell? ⟨gb535, 0, none⟩ = some (.slice Ao53 t531.length co53) := (blk_cell BK535.out 0).trans rfl; have hfz65_0 := blk_frozen BK535.out 0) | (go_at_call 23; (with_reducible refine (snowlineref02_Same.calls k3 _ _ t531 _ _ t536 t541 _ ?side1 ?side2 ?side3 ?side4 A48.out).mono ?_); (case side1 => refine (Kd.R_reads' (e := 48) (base := w.heap.size) (ok := fun k_ => ((True ∧ some k_ ≠ (.slice Ao16 t518.length co16 : Value).ownBlock) ∧ some k_ ≠ (.slice Ao60 t536.length co60 : Value).ownBlock)) (n := t531.length) (c := co53) ?_).2.2; exact (by (with_reducible repeat (first | apply Kd.R_alloc | apply Kd.R_drewN | apply Kd.R_drew)); exact (Kd.R_mono (Kd.R_far (p := ⟨gb540, 0, none⟩) (Kd.R_types HO533.out BK540.out (by decide)) (fun _ hk => hk.2) (.slice Ao60 t536.length co60)) (fun _ h_ => h_.1)))); (case side2 => exact (Kd.R_reads' HO533.out).2.1); (case side3 => refine (Kd.R_reads' (e := 48) (base := w.heap.size) (ok := fun k_ => ((True ∧ some k_ ≠ (.slice Ao16 t518.length co16 : Value).ownBlock) ∧ some k_ ≠ (.slice Ao53 t531.length co53 : Value).ownBlock)) (n := t536.length) (c := co60) ?_).2.2; exact (by (with_reducible repeat (first | apply Kd.R_alloc | apply Kd.R_drewN | apply Kd.R_drew)); exact (Kd.R_mono (Kd.R_far (p := ⟨gb540, 0, none⟩) (Kd.R_types HO538.out BK540.out (by decide)) (fun _ hk => hk.2) (.slice Ao60 t536.length co60)) (fun _ h_ => h_.1)))); (case side4 => exact (Kd.R_reads' HO538.out).2.1); rintro e w66 ⟨rfl, hb⟩; have n0_ := Aside0.mk (Kd.R_below (by (with_reducible repeat (first | apply Kd.R_alloc | apply Kd.R_drewN | apply Kd.R_drew)); exact (Kd.R_mono (Kd.R_far (p := ⟨gb540, 0, none⟩) (Kd.R_types HO_523000.out BK540.out (by decide)) (fun _ hk => hk.2) (.slice Ao60 t536.length co60)) (fun _ h_ => h_.1))) hb); have n1_ := Aside0.mk (Kd.R_below (by (with_reducible repeat (first | apply Kd.R_alloc | apply Kd.R_drewN | apply Kd.R_drew)); exact (Kd.R_mono (Kd.R_far (p := ⟨gb540, 0, none⟩) (Kd.R_types HO533.out BK540.out (by decide)) (fun _ hk => hk.2) (.slice Ao60 t536.length co60)) (fun _ h_ => h_.1))) hb); have n2_ := Aside0.mk (Kd.R_below (by (with_reducible repeat (first | apply Kd.R_alloc | apply Kd.R_drewN | apply Kd.R_drew)); exact (Kd.R_mono (Kd.R_far (p := ⟨gb540, 0, none⟩) (Kd.R_types HO538.out BK540.out (by decide)) (fun _ hk => hk.2) (.slice Ao60 t536.length co60)) (fun _ h_ => h_.1))) hb); have n3_ := Aside0.mk (blk_below (g := gb516) (o := .cells #[.slice A0_0 l0_0.length c0_0] 24 (0, 0)) (by (with_reducible repeat (first | refine blk_drewN ?_ _ | refine blk_drew ?_ | refine blk_alloc ?_ _)); refine blk_far ?_ NB516_540.out _; (with_reducible repeat (first | refine blk_drewN ?_ _ | refine blk_drew ?_ | refine blk_alloc ?_ _)); exact BK516.out) hb); have n4_ := Aside0.mk (blk_below (g := gb522) (o := .cells #[.slice Ao16 t518.length co16] 24 (0, 0)) (by (with_reducible repeat (first | refine blk_drewN ?_ _ | refine blk_drew ?_ | refine blk_alloc ?_ _)); refine blk_far ?_ NB522_540.out _; (with_reducible repeat (first | refine blk_drewN ?_ _ | refine blk_drew ?_ | refine blk_alloc ?_ _)); exact BK522.out) hb); have n5_ := Aside0.mk (blk_below (g := gb535) (o := .cells #[.slice Ao53 t531.length co53] 24 (0, 0)) (by (with_reducible repeat (first | refine blk_drewN ?_ _ | refine blk_drew ?_ | refine blk_alloc ?_ _)); refine blk_far ?_ NB535_540.out _; (with_reducible repeat (first | refine blk_drewN ?_ _ | refine blk_drew ?_ | refine blk_alloc ?_ _)); exact BK535.out) hb); have n6_ := Aside0.mk (blk_below (g := gb540) (o := .cells #[.slice Ao60 t536.length co60] 24 (0, 0)) (by (with_reducible repeat (first | refine blk_drewN ?_ _ | refine blk_drew ?_ | refine blk_alloc ?_ _)); refine blk_put (cs := #[.slice none 0 0]) ?_ 0 _ rfl; (with_reducible repeat (first | refine blk_drewN ?_ _ | refine blk_drew ?_ | refine blk_alloc ?_ _)); exact BK540.out) hb); have n7_ := Aside0.mk (below_step (by repeat (first | (with_reducible first | exact HB.out | apply below_alloc | apply pw_below_drewN | apply below_drew1 | refine below_set ?_ GE516.out | refine below_set ?_ GE522.out | refine below_set ?_ GE535.out | refine below_set ?_ GE540.out) | exact HB.out)) hb); clear HO_523000; clear HO533; clear HO538; clear BK516; clear BK522; clear BK535; clear BK540; clear HB; have HO_523000 := n0_; have HO533 := n1_; have HO538 := n2_; have BK516 := n3_; have BK522 := n4_; have BK535 := n5_; have BK540 := n6_; have HB := n7_; clear n0_ n1_ n2_ n3_ n4_ n5_ n6_ n7_; (try clear hb); (try clear hb2); (try clear hk); (try clear hi))); try go_wp2_with (first | (go_at_call 29; (with_reducible refine (pack_Joined.calls _ _ t518 a2 t531 t534 _ ?side1 ?side2 A45.out).mono ?_); (case side1 => repeat (first | exact (Kd.R_reads' HO_523000.out).2.2 | (with_reducible refine Kd.C_alloc ?_ _) | (with_reducible refine Kd.C_drewN ?_ _) | (with_reducible refine Kd.C_drew ?_))); (case side2 => exact (Kd.R_reads' HO_523000.out).2.1); rintro e w51 ⟨v532, rfl, ho0, hb⟩; have n0_ := Aside0.mk (Kd.R_elder' (by (with_reducible repeat (first | apply Kd.R_alloc | apply Kd.R_drewN | apply Kd.R_drew)); exact HO_523000.out) (Kd.R_base ho0) hb); have n1_ := Aside0.mk (Kd.R_lower (Kd.R_new' ho0 (Kd.R_lt (by (with_reducible repeat (first | apply Kd.R_alloc | apply Kd.R_drewN | apply Kd.R_drew)); exact HO_523000.out))) (below_size (by repeat (first | (with_reducible first | exact HB.out | apply below_alloc | apply pw_below_drewN | apply below_drew1 | refine below_set ?_ GE516.out | refine below_set ?_ GE522.out) | exact HB.out)))); have n2_ := Aside0.mk (blk_below (g := gb516) (o := .cells #[.slice A0_0 l0_0.length c0_0] 24 (0, 0)) (by (with_reducible repeat (first | refine blk_drewN ?_ _ | refine blk_drew ?_ | refine blk_alloc ?_ _)); exact BK516.out) hb); have n3_ := Aside0.mk (blk_below (g := gb522) (o := .cells #[.slice Ao16 t518.length co16] 24 (0, 0)) (by (with_reducible repeat (first | refine blk_drewN ?_ _ | refine blk_drew ?_ | refine blk_alloc ?_ _)); exact BK522.out) hb); have n4_ := Aside0.mk (below_step (by repeat (first | (with_reducible first | exact HB.out | apply below_alloc | apply pw_below_drewN | apply below_drew1 | refine below_set ?_ GE516.out | refine below_set ?_ GE522.out) | exact HB.out)) hb); clear HO_523000; clear BK516; clear BK522; clear HB; have HO_523000 := n0_; have HO533 := n1_; have BK516 := n2_; have BK522 := n3_; have HB := n4_; clear n0_ n1_ n2_ n3_ n4_; (try clear hb); (try clear hb2); (try clear hk); (try clear hi); (try clear ho0)) | ((with_reducible refine gate_dst (N := 16) rfl ?_); (try (refine gate_guard (by rfl) ?_; dsimp only)); refine box_event ?hg (N := 16) ?hd (cs := #[.slice none 0 0]) (t := 24) ?hr ?_; (case hd => rfl); (case hg => rfl); (case hr => first | (go_simp; done) | (go_simp; rfl)); intro gb535 hg w52 hbox hb; have n0_ := Aside0.mk (Kd.R_below (by (with_reducible repeat (first | apply Kd.R_alloc | apply Kd.R_drewN | apply Kd.R_drew)); exact HO_523000.out) hb); have n1_ := Aside0.mk (Kd.R_below (by (with_reducible repeat (first | apply Kd.R_alloc | apply Kd.R_drewN | apply Kd.R_drew)); exact HO533.out) hb); have n2_ := Aside0.mk (blk_below (g := gb516) (o := .cells #[.slice A0_0 l0_0.length c0_0] 24 (0, 0)) (by (with_reducible repeat (first | refine blk_drewN ?_ _ | refine blk_drew ?_ | refine blk_alloc ?_ _)); exact BK516.out) hb); have n3_ := Aside0.mk (blk_below (g := gb522) (o := .cells #[.slice Ao16 t518.length co16] 24 (0, 0)) (by (with_reducible repeat (first | refine blk_drewN ?_ _ | refine blk_drew ?_ | refine blk_alloc ?_ _)); exact BK522.out) hb); have n4_ := Aside0.mk (below_step (by repeat (first | (with_reducible first | exact HB.out | apply below_alloc | apply pw_below_drewN | apply below_drew1 | refine below_set ?_ GE516.out | refine below_set ?_ GE522.out) | exact HB.out)) hb); have n5_ := Aside0.mk (hbox); have n6_ := Aside0.mk ((by rw [hg]; exact (below_size (by repeat (first | (with_reducible first | exact HB.out | apply below_alloc | apply pw_below_drewN | apply below_drew1 | refine below_set ?_ GE516.out | refine below_set ?_ GE522.out) | exact HB.out))) : w.heap.size ≤ gb535)); have n7_ := Aside0.mk ((by rw [hg]; exact (below_size (by repeat (first | (with_reducible first | exact HB.out | apply below_alloc | apply pw_below_drewN | apply below_drew1 | refine below_set ?_ GE516.out | refine below_set ?_ GE522.out) | exact HB.out))) : w.heap.size ≤ gb535)); have n8_ := Aside0.mk ((by rw [hg]; exact Nat.ne_of_lt (blk_lt (g := gb516) (o := .cells #[.slice A0_0 l0_0.length c0_0] 24 (0, 0)) (by (with_reducible repeat (first | refine blk_drewN ?_ _ | refine blk_drew ?_ | refine blk_alloc ?_ _)); exact BK516.out)) : gb516 ≠ gb535)); have n9_ := Aside0.mk ((by rw [hg]; exact Nat.ne_of_gt (blk_lt (g := gb516) (o := .cells #[.slice A0_0 l0_0.length c0_0] 24 (0, 0)) (by (with_reducible repeat (first | refine blk_drewN ?_ _ | refine blk_drew ?_ | refine blk_alloc ?_ _)); exact BK516.out)) : gb535 ≠ gb516)); have n10_ := Aside0.mk ((by rw [hg]; exact Nat.ne_of_lt (blk_lt (g := gb522) (o := .cells #[.slice Ao16 t518.length co16] 24 (0, 0)) (by (with_reducible repeat (first | refine blk_drewN ?_ _ | refine blk_drew ?_ | refine blk_alloc ?_ _)); exact BK522.out)) : gb522 ≠ gb535)); have n11_ := Aside0.mk ((by rw [hg]; exact Nat.ne_of_gt (blk_lt (g := gb522) (o := .cells #[.slice Ao16 t518.length co16] 24 (0, 0)) (by (with_reducible repeat (first | refine blk_drewN ?_ _ | refine blk_drew ?_ | refine blk_alloc ?_ _)); exact BK522.out)) : gb535 ≠ gb522)); clear HO_523000; clear HO533; clear BK516; clear BK522; clear HB; have HO_523000 := n0_; have HO533 := n1_; have BK516 := n2_; have BK522 := n3_; have HB := n4_; have BK535 := n5_; have GW535 := n6_; have GE535 := n7_; have NB516_535 := n8_; have NB535_516 := n9_; have NB522_535 := n10_; have NB535_522 := n11_; clear n0_ n1_ n2_ n3_ n4_ n5_ n6_ n7_ n8_ n9_ n10_ n11_; clear hb hbox hg; obtain ⟨Ao53, co53, eo53⟩ := Kd.R_slice HO533.out; subst eo53; have hnb54 := NB535_516.out; have hnc54 := NB516_535.out; have hnb55 := NB535_522.out; have hnc55 := NB522_535.out; have hcz56_0 : w52.cell? ⟨gb535, 0, none⟩ = some (.slice none 0 0) := (blk_cell BK535.out 0).trans rfl; have hfz56_0 := blk_frozen BK535.out 0; have hcz57_0 : w52.cell? ⟨gb516, 0, none⟩ = some (.slice A0_0 l0_0.length c0_0) := (blk_cell BK516.out 0).trans rfl; have hfz57_0 := blk_frozen BK516.out 0) | (go_at_call 29; (with_reducible refine (pack_Joined.calls _ _ l0_0 a2 t536 t539 _ ?side1 ?side2 A46.out).mono ?_); (case side1 => exact Kd.C_below HR0_0.out (by repeat (first | (with_reducible first | exact HB.out | apply below_alloc | apply pw_below_drewN | apply below_drew1 | refine below_set ?_ GE516.out | refine below_set ?_ GE522.out | refine below_set ?_ GE535.out) | exact HB.out))); (case side2 => exact HC0_0.out); rintro e w58 ⟨v537, rfl, ho0, hb⟩; have n0_ := Aside0.mk (Kd.R_elder' (by (with_reducible repeat (first | apply Kd.R_alloc | apply Kd.R_drewN | apply Kd.R_drew)); exact (Kd.R_mono (Kd.R_far (p := ⟨gb535, 0, none⟩) (Kd.R_types HO_523000.out BK535.out (by decide)) (fun _ hk => hk.2) (.slice Ao53 t531.length co53)) (fun _ h_ => h_.1))) (Kd.R_base ho0) hb); have n1_ := Aside0.mk (Kd.R_elder' (by (with_reducible repeat (first | apply Kd.R_alloc | apply Kd.R_drewN | apply Kd.R_drew)); exact (Kd.R_mono (Kd.R_far (p := ⟨gb535, 0, none⟩) (Kd.R_types HO533.out BK535.out (by decide)) (fun _ hk => hk.2) (.slice Ao53 t531.length co53)) (fun _ h_ => h_.1))) (Kd.R_base ho0) hb); have n2_ := Aside0.mk (Kd.R_lower (Kd.R_new' (Kd.R_new' ho0 (Kd.R_lt (by (with_reducible repeat (first | apply Kd.R_alloc | apply Kd.R_drewN | apply Kd.R_drew)); exact (Kd.R_mono (Kd.R_far (p := ⟨gb535, 0, none⟩) (Kd.R_types HO_523000.out BK535.out (by decide)) (fun _ hk => hk.2) (.slice Ao53 t531.length co53)) (fun _ h_ => h_.1))))) (Kd.R_lt (by (with_reducible repeat (first | apply Kd.R_alloc | apply Kd.R_drewN | apply Kd.R_drew)); exact (Kd.R_mono (Kd.R_far (p := ⟨gb535, 0, none⟩) (Kd.R_types HO533.out BK535.out (by decide)) (fun _ hk => hk.2) (.slice Ao53 t531.length co53)) (fun _ h_ => h_.1))))) (below_size (by repeat (first | (with_reducible first | exact HB.out | apply below_alloc | apply pw_below_drewN | apply below_drew1 | refine below_set ?_ GE516.out | refine below_set ?_ GE522.out | refine below_set ?_ GE535.out) | exact HB.out)))); have n3_ := Aside0.mk (blk_below (g := gb516) (o := .cells #[.slice A0_0 l0_0.length c0_0] 24 (0, 0)) (by (with_reducible repeat (first | refine blk_drewN ?_ _ | refine blk_drew ?_ | refine blk_alloc ?_ _)); refine blk_far ?_ NB516_535.out _; (with_reducible repeat (first | refine blk_drewN ?_ _ | refine blk_drew ?_ | refine blk_alloc ?_ _)); exact BK516.out) hb); have n4_ := Aside0.mk (blk_below (g := gb522) (o := .cells #[.slice Ao16 t518.length co16] 24 (0, 0)) (by (with_reducible repeat (first | refine blk_drewN ?_ _ | refine blk_drew ?_ | refine blk_alloc ?_ _)); refine blk_far ?_ NB522_535.out _; (with_reducible repeat (first | refine blk_drewN ?_ _ | refine blk_drew ?_ | refine blk_alloc ?_ _)); exact BK522.out) hb); have n5_ := Aside0.mk (blk_below (g := gb535) (o := .cells #[.slice Ao53 t531.length co53] 24 (0, 0)) (by (with_reducible repeat (first | refine blk_drewN ?_ _ | refine blk_drew ?_ | refine blk_alloc ?_ _)); refine blk_put (cs := #[.slice none 0 0]) ?_ 0 _ rfl; (with_reducible repeat (first | refine blk_drewN ?_ _ | refine blk_drew ?_ | refine blk_alloc ?_ _)); exact BK535.out) hb); have n6_ := Aside0.mk (below_step (by repeat (first | (with_reducible first | exact HB.out | apply below_alloc | apply pw_below_drewN | apply below_drew1 | refine below_set ?_ GE516.out | refine below_set ?_ GE522.out | refine below_set ?_ GE535.out) | exact HB.out)) hb); clear HO_523000; clear HO533; clear BK516; clear BK522; clear BK535; clear HB; have HO_523000 := n0_; have HO533 := n1_; have HO538 := n2_; have BK516 := n3_; have BK522 := n4_; have BK535 := n5_; have HB := n6_; clear n0_ n1_ n2_ n3_ n4_ n5_ n6_; (try clear hb); (try clear hb2); (try clear hk); (try clear hi); (try clear ho0)) | ((with_reducible refine gate_dst (N := 18) rfl ?_); (try (refine gate_guard (by rfl) ?_; dsimp only)); refine box_event ?hg (N := 18) ?hd (cs := #[.slice none 0 0]) (t := 24) ?hr ?_; (case hd => rfl); (case hg => rfl); (case hr => first | (go_simp; done) | (go_simp; rfl)); intro gb540 hg w59 hbox hb; have n0_ := Aside0.mk (Kd.R_below (by (with_reducible repeat (first | apply Kd.R_alloc | apply Kd.R_drewN | apply Kd.R_drew)); exact HO_523000.out) hb); have n1_ := Aside0.mk (Kd.R_below (by (with_reducible repeat (first | apply Kd.R_alloc | apply Kd.R_drewN | apply Kd.R_drew)); exact HO533.out) hb); have n2_ := Aside0.mk (Kd.R_below (by (with_reducible repeat (first | apply Kd.R_alloc | apply Kd.R_drewN | apply Kd.R_drew)); exact HO538.out) hb); have n3_ := Aside0.mk (blk_below (g := gb516) (o := .cells #[.slice A0_0 l0_0.length c0_0] 24 (0, 0)) (by (with_reducible repeat (first | refine blk_drewN ?_ _ | refine blk_drew ?_ | refine blk_alloc ?_ _)); exact BK516.out) hb); have n4_ := Aside0.mk (blk_below (g := gb522) (o := .cells #[.slice Ao16 t518.length co16] 24 (0, 0)) (by (with_reducible repeat (first | refine blk_drewN ?_ _ | refine blk_drew ?_ | refine blk_alloc ?_ _)); exact BK522.out) hb); have n5_ := Aside0.mk (blk_below (g := gb535) (o := .cells #[.slice Ao53 t531.length co53] 24 (0, 0)) (by (with_reducible repeat (first | refine blk_drewN ?_ _ | refine blk_drew ?_ | refine blk_alloc ?_ _)); exact BK535.out) hb); have n6_ := Aside0.mk (below_step (by repeat (first | (with_reducible first | exact HB.out | apply below_alloc | apply pw_below_drewN | apply below_drew1 | refine below_set ?_ GE516.out | refine below_set ?_ GE522.out | refine below_set ?_ GE535.out) | exact HB.out)) hb); have n7_ := Aside0.mk (hbox); have n8_ := Aside0.mk ((by rw [hg]; exact (below_size (by repeat (first | (with_reducible first | exact HB.out | apply below_alloc | apply pw_below_drewN | apply below_drew1 | refine below_set ?_ GE516.out | refine below_set ?_ GE522.out | refine below_set ?_ GE535.out) | exact HB.out))) : w.heap.size ≤ gb540)); have n9_ := Aside0.mk ((by rw [hg]; exact (below_size (by repeat (first | (with_reducible first | exact HB.out | apply below_alloc | apply pw_below_drewN | apply below_drew1 | refine below_set ?_ GE516.out | refine below_set ?_ GE522.out | refine below_set ?_ GE535.out) | exact HB.out))) : w.heap.size ≤ gb540)); have n10_ := Aside0.mk ((by rw [hg]; exact Nat.ne_of_lt (blk_lt (g := gb516) (o := .cells #[.slice A0_0 l0_0.length c0_0] 24 (0, 0)) (by (with_reducible repeat (first | refine blk_drewN ?_ _ | refine blk_drew ?_ | refine blk_alloc ?_ _)); exact BK516.out)) : gb516 ≠ gb540)); have n11_ := Aside0.mk ((by rw [hg]; exact Nat.ne_of_gt (blk_lt (g := gb516) (o := .cells #[.slice A0_0 l0_0.length c0_0] 24 (0, 0)) (by (with_reducible repeat (first | refine blk_drewN ?_ _ | refine blk_drew ?_ | refine blk_alloc ?_ _)); exact BK516.out)) : gb540 ≠ gb516)); have n12_ := Aside0.mk ((by rw [hg]; exact Nat.ne_of_lt (blk_lt (g := gb522) (o := .cells #[.slice Ao16 t518.length co16] 24 (0, 0)) (by (with_reducible repeat (first | refine blk_drewN ?_ _ | refine blk_drew ?_ | refine blk_alloc ?_ _)); exact BK522.out)) : gb522 ≠ gb540)); have n13_ := Aside0.mk ((by rw [hg]; exact Nat.ne_of_gt (blk_lt (g := gb522) (o := .cells #[.slice Ao16 t518.length co16] 24 (0, 0)) (by (with_reducible repeat (first | refine blk_drewN ?_ _ | refine blk_drew ?_ | refine blk_alloc ?_ _)); exact BK522.out)) : gb540 ≠ gb522)); have n14_ := Aside0.mk ((by rw [hg]; exact Nat.ne_of_lt (blk_lt (g := gb535) (o := .cells #[.slice Ao53 t531.length co53] 24 (0, 0)) (by (with_reducible repeat (first | refine blk_drewN ?_ _ | refine blk_drew ?_ | refine blk_alloc ?_ _)); exact BK535.out)) : gb535 ≠ gb540)); have n15_ := Aside0.mk ((by rw [hg]; exact Nat.ne_of_gt (blk_lt (g := gb535) (o := .cells #[.slice Ao53 t531.length co53] 24 (0, 0)) (by (with_reducible repeat (first | refine blk_drewN ?_ _ | refine blk_drew ?_ | refine blk_alloc ?_ _)); exact BK535.out)) : gb540 ≠ gb535)); clear HO_523000; clear HO533; clear HO538; clear BK516; clear BK522; clear BK535; clear HB; have HO_523000 := n0_; have HO533 := n1_; have HO538 := n2_; have BK516 := n3_; have BK522 := n4_; have BK535 := n5_; have HB := n6_; have BK540 := n7_; have GW540 := n8_; have GE540 := n9_; have NB516_540 := n10_; have NB540_516 := n11_; have NB522_540 := n12_; have NB540_522 := n13_; have NB535_540 := n14_; have NB540_535 := n15_; clear n0_ n1_ n2_ n3_ n4_ n5_ n6_ n7_ n8_ n9_ n10_ n11_ n12_ n13_ n14_ n15_; clear hb hbox hg; obtain ⟨Ao60, co60, eo60⟩ := Kd.R_slice HO538.out; subst eo60; have hnb61 := NB540_516.out; have hnc61 := NB516_540.out; have hnb62 := NB540_522.out; have hnc62 := NB522_540.out; have hnb63 := NB540_535.out; have hnc63 := NB535_540.out; have hcz64_0 : w59.cell? ⟨gb540, 0, none⟩ = some (.slice none 0 0) := (blk_cell BK540.out 0).trans rfl; have hfz64_0 := blk_frozen BK540.out 0; have hcz65_0 : w59.cell? ⟨gb535, 0, none⟩ = some (.slice Ao53 t531.length co53) := (blk_cell BK535.out 0).trans rfl; have hfz65_0 := blk_frozen BK535.out 0) | (go_at_call 23; (with_reducible refine (snowlineref02_Same.calls k3 _ _ t531 _ _ t536 t541 _ ?side1 ?side2 ?side3 ?side4 A48.out).mono ?_); (case side1 => refine (Kd.R_reads' (e := 48) (base := w.heap.size) (ok := fun k_ => ((True ∧ some k_ ≠ (.slice Ao16 t518.length co16 : Value).ownBlock) ∧ some k_ ≠ (.slice Ao60 t536.length co60 : Value).ownBlock)) (n := t531.length) (c := co53) ?_).2.2; exact (by (with_reducible repeat (first | apply Kd.R_alloc | apply Kd.R_drewN | apply Kd.R_drew)); exact (Kd.R_mono (Kd.R_far (p := ⟨gb540, 0, none⟩) (Kd.R_types HO533.out BK540.out (by decide)) (fun _ hk => hk.2) (.slice Ao60 t536.length co60)) (fun _ h_ => h_.1)))); (case side2 => exact (Kd.R_reads' HO533.out).2.1); (case side3 => refine (Kd.R_reads' (e := 48) (base := w.heap.size) (ok := fun k_ => ((True ∧ some k_ ≠ (.slice Ao16 t518.length co16 : Value).ownBlock) ∧ some k_ ≠ (.slice Ao53 t531.length co53 : Value).ownBlock)) (n := t536.length) (c := co60) ?_).2.2; exact (by (with_reducible repeat (first | apply Kd.R_alloc | apply Kd.R_drewN | apply Kd.R_drew)); exact (Kd.R_mono (Kd.R_far (p := ⟨gb540, 0, none⟩) (Kd.R_types HO538.out BK540.out (by decide)) (fun _ hk => hk.2) (.slice Ao60 t536.length co60)) (fun _ h_ => h_.1)))); (case side4 => exact (Kd.R_reads' HO538.out).2.1); rintro e w66 ⟨rfl, hb⟩; have n0_ := Aside0.mk (Kd.R_below (by (with_reducible repeat (first | apply Kd.R_alloc | apply Kd.R_drewN | apply Kd.R_drew)); exact (Kd.R_mono (Kd.R_far (p := ⟨gb540, 0, none⟩) (Kd.R_types HO_523000.out BK540.out (by decide)) (fun _ hk => hk.2) (.slice Ao60 t536.length co60)) (fun _ h_ => h_.1))) hb); have n1_ := Aside0.mk (Kd.R_below (by (with_reducible repeat (first | apply Kd.R_alloc | apply Kd.R_drewN | apply Kd.R_drew)); exact (Kd.R_mono (Kd.R_far (p := ⟨gb540, 0, none⟩) (Kd.R_types HO533.out BK540.out (by decide)) (fun _ hk => hk.2) (.slice Ao60 t536.length co60)) (fun _ h_ => h_.1))) hb); have n2_ := Aside0.mk (Kd.R_below (by (with_reducible repeat (first | apply Kd.R_alloc | apply Kd.R_drewN | apply Kd.R_drew)); exact (Kd.R_mono (Kd.R_far (p := ⟨gb540, 0, none⟩) (Kd.R_types HO538.out BK540.out (by decide)) (fun _ hk => hk.2) (.slice Ao60 t536.length co60)) (fun _ h_ => h_.1))) hb); have n3_ := Aside0.mk (blk_below (g := gb516) (o := .cells #[.slice A0_0 l0_0.length c0_0] 24 (0, 0)) (by (with_reducible repeat (first | refine blk_drewN ?_ _ | refine blk_drew ?_ | refine blk_alloc ?_ _)); refine blk_far ?_ NB516_540.out _; (with_reducible repeat (first | refine blk_drewN ?_ _ | refine blk_drew ?_ | refine blk_alloc ?_ _)); exact BK516.out) hb); have n4_ := Aside0.mk (blk_below (g := gb522) (o := .cells #[.slice Ao16 t518.length co16] 24 (0, 0)) (by (with_reducible repeat (first | refine blk_drewN ?_ _ | refine blk_drew ?_ | refine blk_alloc ?_ _)); refine blk_far ?_ NB522_540.out _; (with_reducible repeat (first | refine blk_drewN ?_ _ | refine blk_drew ?_ | refine blk_alloc ?_ _)); exact BK522.out) hb); have n5_ := Aside0.mk (blk_below (g := gb535) (o := .cells #[.slice Ao53 t531.length co53] 24 (0, 0)) (by (with_reducible repeat (first | refine blk_drewN ?_ _ | refine blk_drew ?_ | refine blk_alloc ?_ _)); refine blk_far ?_ NB535_540.out _; (with_reducible repeat (first | refine blk_drewN ?_ _ | refine blk_drew ?_ | refine blk_alloc ?_ _)); exact BK535.out) hb); have n6_ := Aside0.mk (blk_below (g := gb540) (o := .cells #[.slice Ao60 t536.length co60] 24 (0, 0)) (by (with_reducible repeat (first | refine blk_drewN ?_ _ | refine blk_drew ?_ | refine blk_alloc ?_ _)); refine blk_put (cs := #[.slice none 0 0]) ?_ 0 _ rfl; (with_reducible repeat (first | refine blk_drewN ?_ _ | refine blk_drew ?_ | refine blk_alloc ?_ _)); exact BK540.out) hb); have n7_ := Aside0.mk (below_step (by repeat (first | (with_reducible first | exact HB.out | apply below_alloc | apply pw_below_drewN | apply below_drew1 | refine below_set ?_ GE516.out | refine below_set ?_ GE522.out | refine below_set ?_ GE535.out | refine below_set ?_ GE540.out) | exact HB.out)) hb); clear HO_523000; clear HO533; clear HO538; clear BK516; clear BK522; clear BK535; clear BK540; clear HB; have HO_523000 := n0_; have HO533 := n1_; have HO538 := n2_; have BK516 := n3_; have BK522 := n4_; have BK535 := n5_; have BK540 := n6_; have HB := n7_; clear n0_ n1_ n2_ n3_ n4_ n5_ n6_ n7_; (try clear hb); (try clear hb2); (try clear hk); (try clear hi))))
                              go_ret
                              exact ⟨by first | rfl | (simp [errW_none, errW_some] <;> rfl) | (simp [*, errW_none, errW_some] <;> rfl), by repeat (first | (with_reducible first | exact HB.out | apply below_alloc | apply pw_below_drewN | apply below_drew1 | refine below_set ?_ GE516.out | refine below_set ?_ GE522.out | refine below_set ?_ GE535.out | refine below_set ?_ GE540.out) | exact HB.out)⟩
                            · rw [if_neg c47] at H
                              have c47b0 : (t534 == t539) = false := beq_eq_false_iff_ne.mpr c47
                              have c47b1 : (t534 != t539) = true := bne_iff_ne.mpr c47
                              obtain rfl := Option.some.inj H
                              have hnb67 := NB522_516.out
                              have hnc67 := NB516_522.out
                              have hcz68_0 : wr.cell? ⟨gb522, 0, none⟩ = some (.slice Ao16 t518.length co16) := (blk_cell BK522.out 0).trans rfl
                              have hfz68_0 := blk_frozen BK522.out 0
                              go_wp2_with (first | (go_at_call 29; (with_reducible refine (pack_Joined.calls _ _ t518 a2 t531 t534 _ ?side1 ?side2 A45.out).mono ?_); (case side1 => repeat (first | exact (Kd.R_reads' HO_523000.out).2.2 | (with_reducible refine Kd.C_alloc ?_ _) | (with_reducible refine Kd.C_drewN ?_ _) | (with_reducible refine Kd.C_drew ?_))); (case side2 => exact (Kd.R_reads' HO_523000.out).2.1); rintro e w69 ⟨v532, rfl, ho0, hb⟩; have n0_ := Aside0.mk (Kd.R_elder' (by (with_reducible repeat (first | apply Kd.R_alloc | apply Kd.R_drewN | apply Kd.R_drew)); exact HO_523000.out) (Kd.R_base ho0) hb); have n1_ := Aside0.mk (Kd.R_lower (Kd.R_new' ho0 (Kd.R_lt (by (with_reducible repeat (first | apply Kd.R_alloc | apply Kd.R_drewN | apply Kd.R_drew)); exact HO_523000.out))) (below_size (by repeat (first | (with_reducible first | exact HB.out | apply below_alloc | apply pw_below_drewN | apply below_drew1 | refine below_set ?_ GE516.out | refine below_set ?_ GE522.out) | exact HB.out)))); have n2_ := Aside0.mk (blk_below (g := gb516) (o := .cells #[.slice A0_0 l0_0.length c0_0] 24 (0, 0)) (by (with_reducible repeat (first | refine blk_drewN ?_ _ | refine blk_drew ?_ | refine blk_alloc ?_ _)); exact BK516.out) hb); have n3_ := Aside0.mk (blk_below (g := gb522) (o := .cells #[.slice Ao16 t518.length co16] 24 (0, 0)) (by (with_reducible repeat (first | refine blk_drewN ?_ _ | refine blk_drew ?_ | refine blk_alloc ?_ _)); exact BK522.out) hb); have n4_ := Aside0.mk (below_step (by repeat (first | (with_reducible first | exact HB.out | apply below_alloc | apply pw_below_drewN | apply below_drew1 | refine below_set ?_ GE516.out | refine below_set ?_ GE522.out) | exact HB.out)) hb); clear HO_523000; clear BK516; clear BK522; clear HB; have HO_523000 := n0_; have HO533 := n1_; have BK516 := n2_; have BK522 := n3_; have HB := n4_; clear n0_ n1_ n2_ n3_ n4_; (try clear hb); (try clear hb2); (try clear hk); (try clear hi); (try clear ho0)) | ((with_reducible refine gate_dst (N := 16) rfl ?_); (try (refine gate_guard (by rfl) ?_; dsimp only)); refine box_event ?hg (N := 16) ?hd (cs := #[.slice none 0 0]) (t := 24) ?hr ?_; (case hd => rfl); (case hg => rfl); (case hr => first | (go_simp; done) | (go_simp; rfl)); intro gb535 hg w70 hbox hb; have n0_ := Aside0.mk (Kd.R_below (by (with_reducible repeat (first | apply Kd.R_alloc | apply Kd.R_drewN | apply Kd.R_drew)); exact HO_523000.out) hb); have n1_ := Aside0.mk (Kd.R_below (by (with_reducible repeat (first | apply Kd.R_alloc | apply Kd.R_drewN | apply Kd.R_drew)); exact HO533.out) hb); have n2_ := Aside0.mk (blk_below (g := gb516) (o := .cells #[.slice A0_0 l0_0.length c0_0] 24 (0, 0)) (by (with_reducible repeat (first | refine blk_drewN ?_ _ | refine blk_drew ?_ | refine blk_alloc ?_ _)); exact BK516.out) hb); have n3_ := Aside0.mk (blk_below (g := gb522) (o := .cells #[.slice Ao16 t518.length co16] 24 (0, 0)) (by (with_reducible repeat (first | refine blk_drewN ?_ _ | refine blk_drew ?_ | refine blk_alloc ?_ _)); exact BK522.out) hb); have n4_ := Aside0.mk (below_step (by repeat (first | (with_reducible first | exact HB.out | apply below_alloc | apply pw_below_drewN | apply below_drew1 | refine below_set ?_ GE516.out | refine below_set ?_ GE522.out) | exact HB.out)) hb); have n5_ := Aside0.mk (hbox); have n6_ := Aside0.mk ((by rw [hg]; exact (below_size (by repeat (first | (with_reducible first | exact HB.out | apply below_alloc | apply pw_below_drewN | apply below_drew1 | refine below_set ?_ GE516.out | refine below_set ?_ GE522.out) | exact HB.out))) : w.heap.size ≤ gb535)); have n7_ := Aside0.mk ((by rw [hg]; exact (below_size (by repeat (first | (with_reducible first | exact HB.out | apply below_alloc | apply pw_below_drewN | apply below_drew1 | refine below_set ?_ GE516.out | refine below_set ?_ GE522.out) | exact HB.out))) : w.heap.size ≤ gb535)); have n8_ := Aside0.mk ((by rw [hg]; exact Nat.ne_of_lt (blk_lt (g := gb516) (o := .cells #[.slice A0_0 l0_0.length c0_0] 24 (0, 0)) (by (with_reducible repeat (first | refine blk_drewN ?_ _ | refine blk_drew ?_ | refine blk_alloc ?_ _)); exact BK516.out)) : gb516 ≠ gb535)); have n9_ := Aside0.mk ((by rw [hg]; exact Nat.ne_of_gt (blk_lt (g := gb516) (o := .cells #[.slice A0_0 l0_0.length c0_0] 24 (0, 0)) (by (with_reducible repeat (first | refine blk_drewN ?_ _ | refine blk_drew ?_ | refine blk_alloc ?_ _)); exact BK516.out)) : gb535 ≠ gb516)); have n10_ := Aside0.mk ((by rw [hg]; exact Nat.ne_of_lt (blk_lt (g := gb522) (o := .cells #[.slice Ao16 t518.length co16] 24 (0, 0)) (by (with_reducible repeat (first | refine blk_drewN ?_ _ | refine blk_drew ?_ | refine blk_alloc ?_ _)); exact BK522.out)) : gb522 ≠ gb535)); have n11_ := Aside0.mk ((by rw [hg]; exact Nat.ne_of_gt (blk_lt (g := gb522) (o := .cells #[.slice Ao16 t518.length co16] 24 (0, 0)) (by (with_reducible repeat (first | refine blk_drewN ?_ _ | refine blk_drew ?_ | refine blk_alloc ?_ _)); exact BK522.out)) : gb535 ≠ gb522)); clear HO_523000; clear HO533; clear BK516; clear BK522; clear HB; have HO_523000 := n0_; have HO533 := n1_; have BK516 := n2_; have BK522 := n3_; have HB := n4_; have BK535 := n5_; have GW535 := n6_; have GE535 := n7_; have NB516_535 := n8_; have NB535_516 := n9_; have NB522_535 := n10_; have NB535_522 := n11_; clear n0_ n1_ n2_ n3_ n4_ n5_ n6_ n7_ n8_ n9_ n10_ n11_; clear hb hbox hg; obtain ⟨Ao71, co71, eo71⟩ := Kd.R_slice HO533.out; subst eo71; have hnb72 := NB535_516.out; have hnc72 := NB516_535.out; have hnb73 := NB535_522.out; have hnc73 := NB522_535.out; have hcz74_0 : w70.cell? ⟨gb535, 0, none⟩ = some (.slice none 0 0) := (blk_cell BK535.out 0).trans rfl; have hfz74_0 := blk_frozen BK535.out 0; have hcz75_0 : w70.cell? ⟨gb516, 0, none⟩ = some (.slice A0_0 l0_0.length c0_0) := (blk_cell BK516.out 0).trans rfl; have hfz75_0 := blk_frozen BK516.out 0) | (go_at_call 29; (with_reducible refine (pack_Joined.calls _ _ l0_0 a2 t536 t539 _ ?side1 ?side2 A46.out).mono ?_); (case side1 => exact Kd.C_below HR0_0.out (by repeat (first | (with_reducible first | exact HB.out | apply below_alloc | apply pw_below_drewN | apply below_drew1 | refine below_set ?_ GE516.out | refine below_set ?_ GE522.out | refine below_set ?_ GE535.out) | exact HB.out))); (case side2 => exact HC0_0.out); rintro e w76 ⟨v537, rfl, ho0, hb⟩; have n0_ := Aside0.mk (Kd.R_elder' (by (with_reducible repeat (first | apply Kd.R_alloc | apply Kd.R_drewN | apply Kd.R_drew)); exact (Kd.R_mono (Kd.R_far (p := ⟨gb535, 0, none⟩) (Kd.R_types HO_523000.out BK535.out (by decide)) (fun _ hk => hk.2) (.slice Ao71 t531.length co71)) (fun _ h_ => h_.1))) (Kd.R_base ho0) hb); have n1_ := Aside0.mk (Kd.R_elder' (by (with_reducible repeat (first | apply Kd.R_alloc | apply Kd.R_drewN | apply Kd.R_drew)); exact (Kd.R_mono (Kd.R_far (p := ⟨gb535, 0, none⟩) (Kd.R_types HO533.out BK535.out (by decide)) (fun _ hk => hk.2) (.slice Ao71 t531.length co71)) (fun _ h_ => h_.1))) (Kd.R_base ho0) hb); have n2_ := Aside0.mk (Kd.R_lower (Kd.R_new' (Kd.R_new' ho0 (Kd.R_lt (by (with_reducible repeat (first | apply Kd.R_alloc | apply Kd.R_drewN | apply Kd.R_drew)); exact (Kd.R_mono (Kd.R_far (p := ⟨gb535, 0, none⟩) (Kd.R_types HO_523000.out BK535.out (by decide)) (fun _ hk => hk.2) (.slice Ao71 t531.length co71)) (fun _ h_ => h_.1))))) (Kd.R_lt (by (with_reducible repeat (first | apply Kd.R_alloc | apply Kd.R_drewN | apply Kd.R_drew)); exact (Kd.R_mono (Kd.R_far (p := ⟨gb535, 0, none⟩) (Kd.R_types HO533.out BK535.out (by decide)) (fun _ hk => hk.2) (.slice Ao71 t531.length co71)) (fun _ h_ => h_.1))))) (below_size (by repeat (first | (with_reducible first | exact HB.out | apply below_alloc | apply pw_below_drewN | apply below_drew1 | refine below_set ?_ GE516.out | refine below_set ?_ GE522.out | refine below_set ?_ GE535.out) | exact HB.out)))); have n3_ := Aside0.mk (blk_below (g := gb516) (o := .cells #[.slice A0_0 l0_0.length c0_0] 24 (0, 0)) (by (with_reducible repeat (first | refine blk_drewN ?_ _ | refine blk_drew ?_ | refine blk_alloc ?_ _)); refine blk_far ?_ NB516_535.out _; (with_reducible repeat (first | refine blk_drewN ?_ _ | refine blk_drew ?_ | refine blk_alloc ?_ _)); exact BK516.out) hb); have n4_ := Aside0.mk (blk_below (g := gb522) (o := .cells #[.slice Ao16 t518.length co16] 24 (0, 0)) (by (with_reducible repeat (first | refine blk_drewN ?_ _ | refine blk_drew ?_ | refine blk_alloc ?_ _)); refine blk_far ?_ NB522_535.out _; (with_reducible repeat (first | refine blk_drewN ?_ _ | refine blk_drew ?_ | refine blk_alloc ?_ _)); exact BK522.out) hb); have n5_ := Aside0.mk (blk_below (g := gb535) (o := .cells #[.slice Ao71 t531.length co71] 24 (0, 0)) (by (with_reducible repeat (first | refine blk_drewN ?_ _ | refine blk_drew ?_ | refine blk_alloc ?_ _)); refine blk_put (cs := #[.slice none 0 0]) ?_ 0 _ rfl; (with_reducible repeat (first | refine blk_drewN ?_ _ | refine blk_drew ?_ | refine blk_alloc ?_ _)); exact BK535.out) hb); have n6_ := Aside0.mk (below_step (by repeat (first | (with_reducible first | exact HB.out | apply below_alloc | apply pw_below_drewN | apply below_drew1 | refine below_set ?_ GE516.out | refine below_set ?_ GE522.out | refine below_set ?_ GE535.out) | exact HB.out)) hb); clear HO_523000; clear HO533; clear BK516; clear BK522; clear BK535; clear HB; have HO_523000 := n0_; have HO533 := n1_; have HO538 := n2_; have BK516 := n3_; have BK522 := n4_; have BK535 := n5_; have HB := n6_; clear n0_ n1_ n2_ n3_ n4_ n5_ n6_; (try clear hb); (try clear hb2); (try clear hk); (try clear hi); (try clear ho0)) | ((with_reducible refine gate_dst (N := 18) rfl ?_); (try (refine gate_guard (by rfl) ?_; dsimp only)); refine box_event ?hg (N := 18) ?hd (cs := #[.slice none 0 0]) (t := 24) ?hr ?_; (case hd => rfl); (case hg => rfl); (case hr => first | (go_simp; done) | (go_simp; rfl)); intro gb540 hg w77 hbox hb; have n0_ := Aside0.mk (Kd.R_below (by (with_reducible repeat (first | apply Kd.R_alloc | apply Kd.R_drewN | apply Kd.R_drew)); exact HO_523000.out) hb); have n1_ := Aside0.mk (Kd.R_below (by (with_reducible repeat (first | apply Kd.R_alloc | apply Kd.R_drewN | apply Kd.R_drew)); exact HO533.out) hb); have n2_ := Aside0.mk (Kd.R_below (by (with_reducible repeat (first | apply Kd.R_alloc | apply Kd.R_drewN | apply Kd.R_drew)); exact HO538.out) hb); have n3_ := Aside0.mk (blk_below (g := gb516) (o := .cells #[.slice A0_0 l0_0.length c0_0] 24 (0, 0)) (by (with_reducible repeat (first | refine blk_drewN ?_ _ | refine blk_drew ?_ | refine blk_alloc ?_ _)); exact BK516.out) hb); have n4_ := Aside0.mk (blk_below (g := gb522) (o := .cells #[.slice Ao16 t518.length co16] 24 (0, 0)) (by (with_reducible repeat (first | refine blk_drewN ?_ _ | refine blk_drew ?_ | refine blk_alloc ?_ _)); exact BK522.out) hb); have n5_ := Aside0.mk (blk_below (g := gb535) (o := .cells #[.slice Ao71 t531.length co71] 24 (0, 0)) (by (with_reducible repeat (first | refine blk_drewN ?_ _ | refine blk_drew ?_ | refine blk_alloc ?_ _)); exact BK535.out) hb); have n6_ := Aside0.mk (below_step (by repeat (first | (with_reducible first | exact HB.out | apply below_alloc | apply pw_below_drewN | apply below_drew1 | refine below_set ?_ GE516.out | refine below_set ?_ GE522.out | refine below_set ?_ GE535.out) | exact HB.out)) hb); have n7_ := Aside0.mk (hbox); have n8_ := Aside0.mk ((by rw [hg]; exact (below_size (by repeat (first | (with_reducible first | exact HB.out | apply below_alloc | apply pw_below_drewN | apply below_drew1 | refine below_set ?_ GE516.out | refine below_set ?_ GE522.out | refine below_set ?_ GE535.out) | exact HB.out))) : w.heap.size ≤ gb540)); have n9_ := Aside0.mk ((by rw [hg]; exact (below_size (by repeat (first | (with_reducible first | exact HB.out | apply below_alloc | apply pw_below_drewN | apply below_drew1 | refine below_set ?_ GE516.out | refine below_set ?_ GE522.out | refine below_set ?_ GE535.out) | exact HB.out))) : w.heap.size ≤ gb540)); have n10_ := Aside0.mk ((by rw [hg]; exact Nat.ne_of_lt (blk_lt (g := gb516) (o := .cells #[.slice A0_0 l0_0.length c0_0] 24 (0, 0)) (by (with_reducible repeat (first | refine blk_drewN ?_ _ | refine blk_drew ?_ | refine blk_alloc ?_ _)); exact BK516.out)) : gb516 ≠ gb540)); have n11_ := Aside0.mk ((by rw [hg]; exact Nat.ne_of_gt (blk_lt (g := gb516) (o := .cells #[.slice A0_0 l0_0.length c0_0] 24 (0, 0)) (by (with_reducible repeat (first | refine blk_drewN ?_ _ | refine blk_drew ?_ | refine blk_alloc ?_ _)); exact BK516.out)) : gb540 ≠ gb516)); have n12_ := Aside0.mk ((by rw [hg]; exact Nat.ne_of_lt (blk_lt (g := gb522) (o := .cells #[.slice Ao16 t518.length co16] 24 (0, 0)) (by (with_reducible repeat (first | refine blk_drewN ?_ _ | refine blk_drew ?_ | refine blk_alloc ?_ _)); exact BK522.out)) : gb522 ≠ gb540)); have n13_ := Aside0.mk ((by rw [hg]; exact Nat.ne_of_gt (blk_lt (g := gb522) (o := .cells #[.slice Ao16 t518.length co16] 24 (0, 0)) (by (with_reducible repeat (first | refine blk_drewN ?_ _ | refine blk_drew ?_ | refine blk_alloc ?_ _)); exact BK522.out)) : gb540 ≠ gb522)); have n14_ := Aside0.mk ((by rw [hg]; exact Nat.ne_of_lt (blk_lt (g := gb535) (o := .cells #[.slice Ao71 t531.length co71] 24 (0, 0)) (by (with_reducible repeat (first | refine blk_drewN ?_ _ | refine blk_drew ?_ | refine blk_alloc ?_ _)); exact BK535.out)) : gb535 ≠ gb540)); have n15_ := Aside0.mk ((by rw [hg]; exact Nat.ne_of_gt (blk_lt (g := gb535) (o := .cells #[.slice Ao71 t531.length co71] 24 (0, 0)) (by (with_reducible repeat (first | refine blk_drewN ?_ _ | refine blk_drew ?_ | refine blk_alloc ?_ _)); exact BK535.out)) : gb540 ≠ gb535)); clear HO_523000; clear HO533; clear HO538; clear BK516; clear BK522; clear BK535; clear HB; have HO_523000 := n0_; have HO533 := n1_; have HO538 := n2_; have BK516 := n3_; have BK522 := n4_; have BK535 := n5_; have HB := n6_; have BK540 := n7_; have GW540 := n8_; have GE540 := n9_; have NB516_540 := n10_; have NB540_516 := n11_; have NB522_540 := n12_; have NB540_522 := n13_; have NB535_540 := n14_; have NB540_535 := n15_; clear n0_ n1_ n2_ n3_ n4_ n5_ n6_ n7_ n8_ n9_ n10_ n11_ n12_ n13_ n14_ n15_; clear hb hbox hg; obtain ⟨Ao78, co78, eo78⟩ := Kd.R_slice HO538.out; subst eo78; have hnb79 := NB540_516.out; have hnc79 := NB516_540.out; have hnb80 := NB540_522.out; have hnc80 := NB522_540.out; have hnb81 := NB540_535.out; have hnc81 := NB535_540.out; have hcz82_0 : w77.cell? ⟨gb540, 0, none⟩ = some (.slice none 0 0) := (blk_cell BK540.out 0).trans rfl; have hfz82_0 := blk_frozen BK540.out 0))
                              repeat (go_quiet (first | (go_at_call 29; (with_reducible refine (pack_Joined.calls _ _ t518 a2 t531 t534 _ ?side1 ?side2 A45.out).mono ?_); (case side1 => repeat (first | exact (Kd.R_reads' HO_523000.out).2.2 | (with_reducible refine Kd.C_alloc ?_ _) | (with_reducible refine Kd.C_drewN ?_ _) | (with_reducible refine Kd.C_drew ?_))); (case side2 => exact (Kd.R_reads' HO_523000.out).2.1); rintro e w69 ⟨v532, rfl, ho0, hb⟩; have n0_ := Aside0.mk (Kd.R_elder' (by (with_reducible repeat (first | apply Kd.R_alloc | apply Kd.R_drewN | apply Kd.R_drew)); exact HO_523000.out) (Kd.R_base ho0) hb); have n1_ := Aside0.mk (Kd.R_lower (Kd.R_new' ho0 (Kd.R_lt (by (with_reducible repeat (first | apply Kd.R_alloc | apply Kd.R_drewN | apply Kd.R_drew)); exact HO_523000.out))) (below_size (by repeat (first | (with_reducible first | exact HB.out | apply below_alloc | apply pw_below_drewN | apply below_drew1 | refine below_set ?_ GE516.out | refine below_set ?_ GE522.out) | exact HB.out)))); have n2_ := Aside0.mk (blk_below (g := gb516) (o := .cells #[.slice A0_0 l0_0.length c0_0] 24 (0, 0)) (by (with_reducible repeat (first | refine blk_drewN ?_ _ | refine blk_drew ?_ | refine blk_alloc ?_ _)); exact BK516.out) hb); have n3_ := Aside0.mk (blk_below (g := gb522) (o := .cells #[.slice Ao16 t518.length co16] 24 (0, 0)) (by (with_reducible repeat (first | refine blk_drewN ?_ _ | refine blk_drew ?_ | refine blk_alloc ?_ _)); exact BK522.out) hb); have n4_ := Aside0.mk (below_step (by repeat (first | (with_reducible first | exact HB.out | apply below_alloc | apply pw_below_drewN | apply below_drew1 | refine below_set ?_ GE516.out | refine below_set ?_ GE522.out) | exact HB.out)) hb); clear HO_523000; clear BK516; clear BK522; clear HB; have HO_523000 := n0_; have HO533 := n1_; have BK516 := n2_; have BK522 := n3_; have HB := n4_; clear n0_ n1_ n2_ n3_ n4_; (try clear hb); (try clear hb2); (try clear hk); (try clear hi); (try clear ho0)) | ((with_reducible refine gate_dst (N := 16) rfl ?_); (try (refine gate_guard (by rfl) ?_; dsimp only)); refine box_event ?hg (N := 16) ?hd (cs := #[.slice none 0 0]) (t := 24) ?hr ?_; (case hd => rfl); (case hg => rfl); (case hr => first | (go_simp; done) | (go_simp; rfl)); intro gb535 hg w70 hbox hb; have n0_ := Aside0.mk (Kd.R_below (by (with_reducible repeat (first | apply Kd.R_alloc | apply Kd.R_drewN | apply Kd.R_drew)); exact HO_523000.out) hb); have n1_ := Aside0.mk (Kd.R_below (by (with_reducible repeat (first | apply Kd.R_alloc | apply Kd.R_drewN | apply Kd.R_drew)); exact HO533.out) hb); have n2_ := Aside0.mk (blk_below (g := gb516) (o := .cells #[.slice A0_0 l0_0.length c0_0] 24 (0, 0)) (by (with_reducible repeat (first | refine blk_drewN ?_ _ | refine blk_drew ?_ | refine blk_alloc ?_ _)); exact BK516.out) hb); have n3_ := Aside0.mk (blk_below (g := gb522) (o := .cells #[.slice Ao16 t518.length co16] 24 (0, 0)) (by (with_reducible repeat (first | refine blk_drewN ?_ _ | refine blk_drew ?_ | refine blk_alloc ?_ _)); exact BK522.out) hb); have n4_ := Aside0.mk (below_step (by repeat (first | (with_reducible first | exact HB.out | apply below_alloc | apply pw_below_drewN | apply below_drew1 | refine below_set ?_ GE516.out | refine below_set ?_ GE522.out) | exact HB.out)) hb); have n5_ := Aside0.mk (hbox); have n6_ := Aside0.mk ((by rw [hg]; exact (below_size (by repeat (first | (with_reducible first | exact HB.out | apply below_alloc | apply pw_below_drewN | apply below_drew1 | refine below_set ?_ GE516.out | refine below_set ?_ GE522.out) | exact HB.out))) : w.heap.size ≤ gb535)); have n7_ := Aside0.mk ((by rw [hg]; exact (below_size (by repeat (first | (with_reducible first | exact HB.out | apply below_alloc | apply pw_below_drewN | apply below_drew1 | refine below_set ?_ GE516.out | refine below_set ?_ GE522.out) | exact HB.out))) : w.heap.size ≤ gb535)); have n8_ := Aside0.mk ((by rw [hg]; exact Nat.ne_of_lt (blk_lt (g := gb516) (o := .cells #[.slice A0_0 l0_0.length c0_0] 24 (0, 0)) (by (with_reducible repeat (first | refine blk_drewN ?_ _ | refine blk_drew ?_ | refine blk_alloc ?_ _)); exact BK516.out)) : gb516 ≠ gb535)); have n9_ := Aside0.mk ((by rw [hg]; exact Nat.ne_of_gt (blk_lt (g := gb516) (o := .cells #[.slice A0_0 l0_0.length c0_0] 24 (0, 0)) (by (with_reducible repeat (first | refine blk_drewN ?_ _ | refine blk_drew ?_ | refine blk_alloc ?_ _)); exact BK516.out)) : gb535 ≠ gb516)); have n10_ := Aside0.mk ((by rw [hg]; exact Nat.ne_of_lt (blk_lt (g := gb522) (o := .cells #[.slice Ao16 t518.length co16] 24 (0, 0)) (by (with_reducible repeat (first | refine blk_drewN ?_ _ | refine blk_drew ?_ | refine blk_alloc ?_ _)); exact BK522.out)) : gb522 ≠ gb535)); have n11_ := Aside0.mk ((by rw [hg]; exact Nat.ne_of_gt (blk_lt (g := gb522) (o := .cells #[.slice Ao16 t518.length co16] 24 (0, 0)) (by (with_reducible repeat (first | refine blk_drewN ?_ _ | refine blk_drew ?_ | refine blk_alloc ?_ _)); exact BK522.out)) : gb535 ≠ gb522)); clear HO_523000; clear HO533; clear BK516; clear BK522; clear HB; have HO_523000 := n0_; have HO533 := n1_; have BK516 := n2_; have BK522 := n3_; have HB := n4_; have BK535 := n5_; have GW535 := n6_; have GE535 := n7_; have NB516_535 := n8_; have NB535_516 := n9_; have NB522_535 := n10_; have NB535_522 := n11_; clear n0_ n1_ n2_ n3_ n4_ n5_ n6_ n7_ n8_ n9_ n10_ n11_; clear hb hbox hg; obtain ⟨Ao71, co71, eo71⟩ := Kd.R_slice HO533.out; subst eo71; have hnb72 := NB535_516.out; have hnc72 := NB516_535.out; have hnb73 := NB535_522.out; have hnc73 := NB522_535.out; have hcz74_0 : w70.cell? ⟨gb535, 0, none⟩ = some (.slice none 0 0) := (blk_cell BK535.out 0).trans rfl; have hfz74_0 := blk_frozen BK535.out 0; have hcz75_0 : w70.cell? ⟨gb516, 0, none⟩ = some (.slice A0_0 l0_0.length c0_0) := (blk_cell BK516.out 0).trans rfl; have hfz75_0 := blk_frozen BK516.out 0) | (go_at_call 29; (with_reducible refine (pack_Joined.calls _ _ l0_0 a2 t536 t539 _ ?side1 ?side2 A46.out).mono ?_); (case side1 => exact Kd.C_below HR0_0.out (by repeat (first | (with_reducible first | exact HB.out | apply below_alloc | apply pw_below_drewN | apply below_drew1 | refine below_set ?_ GE516.out | refine below_set ?_ GE522.out | refine below_set ?_ GE535.out) | exact HB.out))); (case side2 => exact HC0_0.out); rintro e w76 ⟨v537, rfl, ho0, hb⟩; have n0_ := Aside0.mk (Kd.R_elder' (by (with_reducible repeat (first | apply Kd.R_alloc | apply Kd.R_drewN | apply Kd.R_drew)); exact (Kd.R_mono (Kd.R_far (p := ⟨gb535, 0, none⟩) (Kd.R_types HO_523000.out BK535.out (by decide)) (fun _ hk => hk.2) (.slice Ao71 t531.length co71)) (fun _ h_ => h_.1))) (Kd.R_base ho0) hb); have n1_ := Aside0.mk (Kd.R_elder' (by (with_reducible repeat (first | apply Kd.R_alloc | apply Kd.R_drewN | apply Kd.R_drew)); exact (Kd.R_mono (Kd.R_far (p := ⟨gb535, 0, none⟩) (Kd.R_types HO533.out BK535.out (by decide)) (fun _ hk => hk.2) (.slice Ao71 t531.length co71)) (fun _ h_ => h_.1))) (Kd.R_base ho0) hb); have n2_ := Aside0.mk (Kd.R_lower (Kd.R_new' (Kd.R_new' ho0 (Kd.R_lt (by (with_reducible repeat (first | apply Kd.R_alloc | apply Kd.R_drewN | apply Kd.R_drew)); exact (Kd.R_mono (Kd.R_far (p := ⟨gb535, 0, none⟩) (Kd.R_types HO_523000.out BK535.out (by decide)) (fun _ hk => hk.2) (.slice Ao71 t531.length co71)) (fun _ h_ => h_.1))))) (Kd.R_lt (by (with_reducible repeat (first | apply Kd.R_alloc | apply Kd.R_drewN | apply Kd.R_drew)); exact (Kd.R_mono (Kd.R_far (p := ⟨gb535, 0, none⟩) (Kd.R_types HO533.out BK535.out (by decide)) (fun _ hk => hk.2) (.slice Ao71 t531.length co71)) (fun _ h_ => h_.1))))) (below_size (by repeat (first | (with_reducible first | exact HB.out | apply below_alloc | apply pw_below_drewN | apply below_drew1 | refine below_set ?_ GE516.out | refine below_set ?_ GE522.out | refine below_set ?_ GE535.out) | exact HB.out)))); have n3_ := Aside0.mk (blk_below (g := gb516) (o := .cells #[.slice A0_0 l0_0.length c0_0] 24 (0, 0)) (by (with_reducible repeat (first | refine blk_drewN ?_ _ | refine blk_drew ?_ | refine blk_alloc ?_ _)); refine blk_far ?_ NB516_535.out _; (with_reducible repeat (first | refine blk_drewN ?_ _ | refine blk_drew ?_ | refine blk_alloc ?_ _)); exact BK516.out) hb); have n4_ := Aside0.mk (blk_below (g := gb522) (o := .cells #[.slice Ao16 t518.length co16] 24 (0, 0)) (by (with_reducible repeat (first | refine blk_drewN ?_ _ | refine blk_drew ?_ | refine blk_alloc ?_ _)); refine blk_far ?_ NB522_535.out _; (with_reducible repeat (first | refine blk_drewN ?_ _ | refine blk_drew ?_ | refine blk_alloc ?_ _)); exact BK522.out) hb); have n5_ := Aside0.mk (blk_below (g := gb535) (o := .cells #[.slice Ao71 t531.length co71] 24 (0, 0)) (by (with_reducible repeat (first | refine blk_drewN ?_ _ | refine blk_drew ?_ | refine blk_alloc ?_ _)); refine blk_put (cs := #[.slice none 0 0]) ?_ 0 _ rfl; (with_reducible repeat (first | refine blk_drewN ?_ _ | refine blk_drew ?_ | refine blk_alloc ?_ _)); exact BK535.out) hb); have n6_ := Aside0.mk (below_step (by repeat (first | (with_reducible first | exact HB.out | apply below_alloc | apply pw_below_drewN | apply below_drew1 | refine below_set ?_ GE516.out | refine below_set ?_ GE522.out | refine below_set ?_ GE535.out) | exact HB.out)) hb); clear HO_523000; clear HO533; clear BK516; clear BK522; clear BK535; clear HB; have HO_523000 := n0_; have HO533 := n1_; have HO538 := n2_; have BK516 := n3_; have BK522 := n4_; have BK535 := n5_; have HB := n6_; clear n0_ n1_ n2_ n3_ n4_ n5_ n6_; (try clear hb); (try clear hb2); (try clear hk); (try clear hi); (try clear ho0)) | ((with_reducible refine gate_dst (N := 18) rfl ?_); (try (refine gate_guard (by rfl) ?_; dsimp only)); refine box_event ?hg (N := 18) ?hd (cs := #[.slice none 0 0]) (t := 24) ?hr ?_; (case hd => rfl); (case hg => rfl); (case hr => first | (go_simp; done) | (go_simp; rfl)); intro gb540 hg w77 hbox hb; have n0_ := Aside0.mk (Kd.R_below (by (with_reducible repeat (first | apply Kd.R_alloc | apply Kd.R_drewN | apply Kd.R_drew)); exact HO_523000.out) hb); have n1_ := Aside0.mk (Kd.R_below (by (with_reducible repeat (first | apply Kd.R_alloc | apply Kd.R_drewN | apply Kd.R_drew)); exact HO533.out) hb); have n2_ := Aside0.mk (Kd.R_below (by (with_reducible repeat (first | apply Kd.R_alloc | apply Kd.R_drewN | apply Kd.R_drew)); exact HO538.out) hb); have n3_ := Aside0.mk (blk_below (g := gb516) (o := .cells #[.slice A0_0 l0_0.length c0_0] 24 (0, 0)) (by (with_reducible repeat (first | refine blk_drewN ?_ _ | refine blk_drew ?_ | refine blk_alloc ?_ _)); exact BK516.out) hb); have n4_ := Aside0.mk (blk_below (g := gb522) (o := .cells #[.slice Ao16 t518.length co16] 24 (0, 0)) (by (with_reducible repeat (first | refine blk_drewN ?_ _ | refine blk_drew ?_ | refine blk_alloc ?_ _)); exact BK522.out) hb); have n5_ := Aside0.mk (blk_below (g := gb535) (o := .cells #[.slice Ao71 t531.length co71] 24 (0, 0)) (by (with_reducible repeat (first | refine blk_drewN ?_ _ | refine blk_drew ?_ | refine blk_alloc ?_ _)); exact BK535.out) hb); have n6_ := Aside0.mk (below_step (by repeat (first | (with_reducible first | exact HB.out | apply below_alloc | apply pw_below_drewN | apply below_drew1 | refine below_set ?_ GE516.out | refine below_set ?_ GE522.out | refine below_set ?_ GE535.out) | exact HB.out)) hb); have n7_ := Aside0.mk (hbox); have n8_ := Aside0.mk ((by rw [hg]; exact (below_size (by repeat (first | (with_reducible first | exact HB.out | apply below_alloc | apply pw_below_drewN | apply below_drew1 | refine below_set ?_ GE516.out | refine below_set ?_ GE522.out | refine below_set ?_ GE535.out) | exact HB.out))) : w.heap.size ≤ gb540)); have n9_ := Aside0.mk ((by rw [hg]; exact (below_size (by repeat (first | (with_reducible first | exact HB.out | apply below_alloc | apply pw_below_drewN | apply below_drew1 | refine below_set ?_ GE516.out | refine below_set ?_ GE522.out | refine below_set ?_ GE535.out) | exact HB.out))) : w.heap.size ≤ gb540)); have n10_ := Aside0.mk ((by rw [hg]; exact Nat.ne_of_lt (blk_lt (g := gb516) (o := .cells #[.slice A0_0 l0_0.length c0_0] 24 (0, 0)) (by (with_reducible repeat (first | refine blk_drewN ?_ _ | refine blk_drew ?_ | refine blk_alloc ?_ _)); exact BK516.out)) : gb516 ≠ gb540)); have n11_ := Aside0.mk ((by rw [hg]; exact Nat.ne_of_gt (blk_lt (g := gb516) (o := .cells #[.slice A0_0 l0_0.length c0_0] 24 (0, 0)) (by (with_reducible repeat (first | refine blk_drewN ?_ _ | refine blk_drew ?_ | refine blk_alloc ?_ _)); exact BK516.out)) : gb540 ≠ gb516)); have n12_ := Aside0.mk ((by rw [hg]; exact Nat.ne_of_lt (blk_lt (g := gb522) (o := .cells #[.slice Ao16 t518.length co16] 24 (0, 0)) (by (with_reducible repeat (first | refine blk_drewN ?_ _ | refine blk_drew ?_ | refine blk_alloc ?_ _)); exact BK522.out)) : gb522 ≠ gb540)); have n13_ := Aside0.mk ((by rw [hg]; exact Nat.ne_of_gt (blk_lt (g := gb522) (o := .cells #[.slice Ao16 t518.length co16] 24 (0, 0)) (by (with_reducible repeat (first | refine blk_drewN ?_ _ | refine blk_drew ?_ | refine blk_alloc ?_ _)); exact BK522.out)) : gb540 ≠ gb522)); have n14_ := Aside0.mk ((by rw [hg]; exact Nat.ne_of_lt (blk_lt (g := gb535) (o := .cells #[.slice Ao71 t531.length co71] 24 (0, 0)) (by (with_reducible repeat (first | refine blk_drewN ?_ _ | refine blk_drew ?_ | refine blk_alloc ?_ _)); exact BK535.out)) : gb535 ≠ gb540)); have n15_ := Aside0.mk ((by rw [hg]; exact Nat.ne_of_gt (blk_lt (g := gb535) (o := .cells #[.slice Ao71 t531.length co71] 24 (0, 0)) (by (with_reducible repeat (first | refine blk_drewN ?_ _ | refine blk_drew ?_ | refine blk_alloc ?_ _)); exact BK535.out)) : gb540 ≠ gb535)); clear HO_523000; clear HO533; clear HO538; clear BK516; clear BK522; clear BK535; clear HB; have HO_523000 := n0_; have HO533 := n1_; have HO538 := n2_; have BK516 := n3_; have BK522 := n4_; have BK535 := n5_; have HB := n6_; have BK540 := n7_; have GW540 := n8_; have GE540 := n9_; have NB516_540 := n10_; have NB540_516 := n11_; have NB522_540 := n12_; have NB540_522 := n13_; have NB535_540 := n14_; have NB540_535 := n15_; clear n0_ n1_ n2_ n3_ n4_ n5_ n6_ n7_ n8_ n9_ n10_ n11_ n12_ n13_ n14_ n15_; clear hb hbox hg; obtain ⟨Ao78, co78, eo78⟩ := Kd.R_slice HO538.out; subst eo78; have hnb79 := NB540_516.out; have hnc79 := NB516_540.out; have hnb80 := NB540_522.out; have hnc80 := NB522_540.out; have hnb81 := NB540_535.out; have hnc81 := NB535_540.out; have hcz82_0 : w77.cell? ⟨gb540, 0, none⟩ = some (.slice none 0 0) := (blk_cell BK540.out 0).trans rfl; have hfz82_0 := blk_frozen BK540.out 0)); try go_wp2_with (first | (go_at_call 29; (with_reducible refine (pack_Joined.calls _ _ t518 a2 t531 t534 _ ?side1 ?side2 A45.out).mono ?_); (case side1 => repeat (first | exact (Kd.R_reads' HO_523000.out).2.2 | (with_reducible refine Kd.C_alloc ?_ _) | (with_reducible refine Kd.C_drewN ?_ _) | (with_reducible refine Kd.C_drew ?_))); (case side2 => exact (Kd.R_reads' HO_523000.out).2.1); rintro e w69 ⟨v532, rfl, ho0, hb⟩; have n0_ := Aside0.mk (Kd.R_elder' (by (with_reducible repeat (first | apply Kd.R_alloc | apply Kd.R_drewN | apply Kd.R_drew)); exact HO_523000.out) (Kd.R_base ho0) hb); have n1_ := Aside0.mk (Kd.R_lower (Kd.R_new' ho0 (Kd.R_lt (by (with_reducible repeat (first | apply Kd.R_alloc | apply Kd.R_drewN | apply Kd.R_drew)); exact HO_523000.out))) (below_size (by repeat (first | (with_reducible first | exact HB.out | apply below_alloc | apply pw_below_drewN | apply below_drew1 | refine below_set ?_ GE516.out | refine below_set ?_ GE522.out) | exact HB.out)))); have n2_ := Aside0.mk (blk_below (g := gb516) (o := .cells #[.slice A0_0 l0_0.length c0_0] 24 (0, 0)) (by (with_reducible repeat (first | refine blk_drewN ?_ _ | refine blk_drew ?_ | refine blk_alloc ?_ _)); exact BK516.out) hb); have n3_ := Aside0.mk (blk_below (g := gb522) (o := .cells #[.slice Ao16 t518.length co16] 24 (0, 0)) (by (with_reducible repeat (first | refine blk_drewN ?_ _ | refine blk_drew ?_ | refine blk_alloc ?_ _)); exact BK522.out) hb); have n4_ := Aside0.mk (below_step (by repeat (first | (with_reducible first | exact HB.out | apply below_alloc | apply pw_below_drewN | apply below_drew1 | refine below_set ?_ GE516.out | refine below_set ?_ GE522.out) | exact HB.out)) hb); clear HO_523000; clear BK516; clear BK522; clear HB; have HO_523000 := n0_; have HO533 := n1_; have BK516 := n2_; have BK522 := n3_; have HB := n4_; clear n0_ n1_ n2_ n3_ n4_; (try clear hb); (try clear hb2); (try clear hk); (try clear hi); (try clear ho0)) | ((with_reducible refine gate_dst (N := 16) rfl ?_); (try (refine gate_guard (by rfl) ?_; dsimp only)); refine box_event ?hg (N := 16) ?hd (cs := #[.slice none 0 0]) (t := 24) ?hr ?_; (case hd => rfl); (case hg => rfl); (case hr => first | (go_simp; done) | (go_simp; rfl)); intro gb535 hg w70 hbox hb; have n0_ := Aside0.mk (Kd.R_below (by (with_reducible repeat (first | apply Kd.R_alloc | apply Kd.R_drewN | apply Kd.R_drew)); exact HO_523000.out) hb); have n1_ := Aside0.mk (Kd.R_below (by (with_reducible repeat (first | apply Kd.R_alloc | apply Kd.R_drewN | apply Kd.R_drew)); exact HO533.out) hb); have n2_ := Aside0.mk (blk_below (g := gb516) (o := .cells #[.slice A0_0 l0_0.length c0_0] 24 (0, 0)) (by (with_reducible repeat (first | refine blk_drewN ?_ _ | refine blk_drew ?_ | refine blk_alloc ?_ _)); exact BK516.out) hb); have n3_ := Aside0.mk (blk_below (g := gb522) (o := .cells #[.slice Ao16 t518.length co16] 24 (0, 0)) (by (with_reducible repeat (first | refine blk_drewN ?_ _ | refine blk_drew ?_ | refine blk_alloc ?_ _)); exact BK522.out) hb); have n4_ := Aside0.mk (below_step (by repeat (first | (with_reducible first | exact HB.out | apply below_alloc | apply pw_below_drewN | apply below_drew1 | refine below_set ?_ GE516.out | refine below_set ?_ GE522.out) | exact HB.out)) hb); have n5_ := Aside0.mk (hbox); have n6_ := Aside0.mk ((by rw [hg]; exact (below_size (by repeat (first | (with_reducible first | exact HB.out | apply below_alloc | apply pw_below_drewN | apply below_drew1 | refine below_set ?_ GE516.out | refine below_set ?_ GE522.out) | exact HB.out))) : w.heap.size ≤ gb535)); have n7_ := Aside0.mk ((by rw [hg]; exact (below_size (by repeat (first | (with_reducible first | exact HB.out | apply below_alloc | apply pw_below_drewN | apply below_drew1 | refine below_set ?_ GE516.out | refine below_set ?_ GE522.out) | exact HB.out))) : w.heap.size ≤ gb535)); have n8_ := Aside0.mk ((by rw [hg]; exact Nat.ne_of_lt (blk_lt (g := gb516) (o := .cells #[.slice A0_0 l0_0.length c0_0] 24 (0, 0)) (by (with_reducible repeat (first | refine blk_drewN ?_ _ | refine blk_drew ?_ | refine blk_alloc ?_ _)); exact BK516.out)) : gb516 ≠ gb535)); have n9_ := Aside0.mk ((by rw [hg]; exact Nat.ne_of_gt (blk_lt (g := gb516) (o := .cells #[.slice A0_0 l0_0.length c0_0] 24 (0, 0)) (by (with_reducible repeat (first | refine blk_drewN ?_ _ | refine blk_drew ?_ | refine blk_alloc ?_ _)); exact BK516.out)) : gb535 ≠ gb516)); have n10_ := Aside0.mk ((by rw [hg]; exact Nat.ne_of_lt (blk_lt (g := gb522) (o := .cells #[.slice Ao16 t518.length co16] 24 (0, 0)) (by (with_reducible repeat (first | refine blk_drewN ?_ _ | refine blk_drew ?_ | refine blk_alloc ?_ _)); exact BK522.out)) : gb522 ≠ gb535)); have n11_ := Aside0.mk ((by rw [hg]; exact Nat.ne_of_gt (blk_lt (g := gb522) (o := .cells #[.slice Ao16 t518.length co16] 24 (0, 0)) (by (with_reducible repeat (first | refine blk_drewN ?_ _ | refine blk_drew ?_ | refine blk_alloc ?_ _)); exact BK522.out)) : gb535 ≠ gb522)); clear HO_523000; clear HO533; clear BK516; clear BK522; clear HB; have HO_523000 := n0_; have HO533 := n1_; have BK516 := n2_; have BK522 := n3_; have HB := n4_; have BK535 := n5_; have GW535 := n6_; have GE535 := n7_; have NB516_535 := n8_; have NB535_516 := n9_; have NB522_535 := n10_; have NB535_522 := n11_; clear n0_ n1_ n2_ n3_ n4_ n5_ n6_ n7_ n8_ n9_ n10_ n11_; clear hb hbox hg; obtain ⟨Ao71, co71, eo71⟩ := Kd.R_slice HO533.out; subst eo71; have hnb72 := NB535_516.out; have hnc72 := NB516_535.out; have hnb73 := NB535_522.out; have hnc73 := NB522_535.out; have hcz74_0 : w70.cell? ⟨gb535, 0, none⟩ = some (.slice none 0 0) := (blk_cell BK535.out 0).trans rfl; have hfz74_0 := blk_frozen BK535.out 0; have hcz75_0 : w70.cell? ⟨gb516, 0, none⟩ = some (.slice A0_0 l0_0.length c0_0) := (blk_cell BK516.out 0).trans rfl; have hfz75_0 := blk_frozen BK516.out 0) | (go_at_call 29; (with_reducible refine (pack_Joined.calls _ _ l0_0 a2 t536 t539 _ ?side1 ?side2 A46.out).mono ?_); (case side1 => exact Kd.C_below HR0_0.out (by repeat (first | (with_reducible first | exact HB.out | apply below_alloc | apply pw_below_drewN | apply below_drew1 | refine below_set ?_ GE516.out | refine below_set ?_ GE522.out | refine below_set ?_ GE535.out) | exact HB.out))); (case side2 => exact HC0_0.out); rintro e w76 ⟨v537, rfl, ho0, hb⟩; have n0_ := Aside0.mk (Kd.R_elder' (by (with_reducible repeat (first | apply Kd.R_alloc | apply Kd.R_drewN | apply Kd.R_drew)); exact (Kd.R_mono (Kd.R_far (p := ⟨gb535, 0, none⟩) (Kd.R_types HO_523000.out BK535.out (by decide)) (fun _ hk => hk.2) (.slice Ao71 t531.length co71)) (fun _ h_ => h_.1))) (Kd.R_base ho0) hb); have n1_ := Aside0.mk (Kd.R_elder' (by (with_reducible repeat (first | apply Kd.R_alloc | apply Kd.R_drewN | apply Kd.R_drew)); exact (Kd.R_mono (Kd.R_far (p := ⟨gb535, 0, none⟩) (Kd.R_types HO533.out BK535.out (by decide)) (fun _ hk => hk.2) (.slice Ao71 t531.length co71)) (fun _ h_ => h_.1))) (Kd.R_base ho0) hb); have n2_ := Aside0.mk (Kd.R_lower (Kd.R_new' (Kd.R_new' ho0 (Kd.R_lt (by (with_reducible repeat (first | apply Kd.R_alloc | apply Kd.R_drewN | apply Kd.R_drew)); exact (Kd.R_mono (Kd.R_far (p := ⟨gb535, 0, none⟩) (Kd.R_types HO_523000.out BK535.out (by decide)) (fun _ hk => hk.2) (.slice Ao71 t531.length co71)) (fun _ h_ => h_.1))))) (Kd.R_lt (by (with_reducible repeat (first | apply Kd.R_alloc | apply Kd.R_drewN | apply Kd.R_drew)); exact (Kd.R_mono (Kd.R_far (p := ⟨gb535, 0, none⟩) (Kd.R_types HO533.out BK535.out (by decide)) (fun _ hk => hk.2) (.slice Ao71 t531.length co71)) (fun _ h_ => h_.1))))) (below_size (by repeat (first | (with_reducible first | exact HB.out | apply below_alloc | apply pw_below_drewN | apply below_drew1 | refine below_set ?_ GE516.out | refine below_set ?_ GE522.out | refine below_set ?_ GE535.out) | exact HB.out)))); have n3_ := Aside0.mk (blk_below (g := gb516) (o := .cells #[.slice A0_0 l0_0.length c0_0] 24 (0, 0)) (by (with_reducible repeat (first | refine blk_drewN ?_ _ | refine blk_drew ?_ | refine blk_alloc ?_ _)); refine blk_far ?_ NB516_535.out _; (with_reducible repeat (first | refine blk_drewN ?_ _ | refine blk_drew ?_ | refine blk_alloc ?_ _)); exact BK516.out) hb); have n4_ := Aside0.mk (blk_below (g := gb522) (o := .cells #[.slice Ao16 t518.length co16] 24 (0, 0)) (by (with_reducible repeat (first | refine blk_drewN ?_ _ | refine blk_drew ?_ | refine blk_alloc ?_ _)); refine blk_far ?_ NB522_535.out _; (with_reducible repeat (first | refine blk_drewN ?_ _ | refine blk_drew ?_ | refine blk_alloc ?_ _)); exact BK522.out) hb); have n5_ := Aside0.mk (blk_below (g := gb535) (o := .cells #[.slice Ao71 t531.length co71] 24 (0, 0)) (by (with_reducible repeat (first | refine blk_drewN ?_ _ | refine blk_drew ?_ | refine blk_alloc ?_ _)); refine blk_put (cs := #[.slice none 0 0]) ?_ 0 _ rfl; (with_reducible repeat (first | refine blk_drewN ?_ _ | refine blk_drew ?_ | refine blk_alloc ?_ _)); exact BK535.out) hb); have n6_ := Aside0.mk (below_step (by repeat (first | (with_reducible first | exact HB.out | apply below_alloc | apply pw_below_drewN | apply below_drew1 | refine below_set ?_ GE516.out | refine below_set ?_ GE522.out | refine below_set ?_ GE535.out) | exact HB.out)) hb); clear HO_523000; clear HO533; clear BK516; clear BK522; clear BK535; clear HB; have HO_523000 := n0_; have HO533 := n1_; have HO538 := n2_; have BK516 := n3_; have BK522 := n4_; have BK535 := n5_; have HB := n6_; clear n0_ n1_ n2_ n3_ n4_ n5_ n6_; (try clear hb); (try clear hb2); (try clear hk); (try clear hi); (try clear ho0)) | ((with_reducible refine gate_dst (N := 18) rfl ?_); (try (refine gate_guard (by rfl) ?_; dsimp only)); refine box_event ?hg (N := 18) ?hd (cs := #[.slice none 0 0]) (t := 24) ?hr ?_; (case hd => rfl); (case hg => rfl); (case hr => first | (go_simp; done) | (go_simp; rfl)); intro gb540 hg w77 hbox hb; have n0_ := Aside0.mk (Kd.R_below (by (with_reducible repeat (first | apply Kd.R_alloc | apply Kd.R_drewN | apply Kd.R_drew)); exact HO_523000.out) hb); have n1_ := Aside0.mk (Kd.R_below (by (with_reducible repeat (first | apply Kd.R_alloc | apply Kd.R_drewN | apply Kd.R_drew)); exact HO533.out) hb); have n2_ := Aside0.mk (Kd.R_below (by (with_reducible repeat (first | apply Kd.R_alloc | apply Kd.R_drewN | apply Kd.R_drew)); exact HO538.out) hb); have n3_ := Aside0.mk (blk_below (g := gb516) (o := .cells #[.slice A0_0 l0_0.length c0_0] 24 (0, 0)) (by (with_reducible repeat (first | refine blk_drewN ?_ _ | refine blk_drew ?_ | refine blk_alloc ?_ _)); exact BK516.out) hb); have n4_ := Aside0.mk (blk_below (g := gb522) (o := .cells #[.slice Ao16 t518.length co16] 24 (0, 0)) (by (with_reducible repeat (first | refine blk_drewN ?_ _ | refine blk_drew ?_ | refine blk_alloc ?_ _)); exact BK522.out) hb); have n5_ := Aside0.mk (blk_below (g := gb535) (o := .cells #[.slice Ao71 t531.length co71] 24 (0, 0)) (by (with_reducible repeat (first | refine blk_drewN ?_ _ | refine blk_drew ?_ | refine blk_alloc ?_ _)); exact BK535.out) hb); have n6_ := Aside0.mk (below_step (by repeat (first | (with_reducible first | exact HB.out | apply below_alloc | apply pw_below_drewN | apply below_drew1 | refine below_set ?_ GE516.out | refine below_set ?_ GE522.out | refine below_set ?_ GE535.out) | exact HB.out)) hb); have n7_ := Aside0.mk (hbox); have n8_ := Aside0.mk ((by rw [hg]; exact (below_size (by repeat (first | (with_reducible first | exact HB.out | apply below_alloc | apply pw_below_drewN | apply below_drew1 | refine below_set ?_ GE516.out | refine below_set ?_ GE522.out | refine below_set ?_ GE535.out) | exact HB.out))) : w.heap.size ≤ gb540)); have n9_ := Aside0.mk ((by rw [hg]; exact (below_size (by repeat (first | (with_reducible first | exact HB.out | apply below_alloc | apply pw_below_drewN | apply below_drew1 | refine below_set ?_ GE516.out | refine below_set ?_ GE522.out | refine below_set ?_ GE535.out) | exact HB.out))) : w.heap.size ≤ gb540)); have n10_ := Aside0.mk ((by rw [hg]; exact Nat.ne_of_lt (blk_lt (g := gb516) (o := .cells #[.slice A0_0 l0_0.length c0_0] 24 (0, 0)) (by (with_reducible repeat (first | refine blk_drewN ?_ _ | refine blk_drew ?_ | refine blk_alloc ?_ _)); exact BK516.out)) : gb516 ≠ gb540)); have n11_ := Aside0.mk ((by rw [hg]; exact Nat.ne_of_gt (blk_lt (g := gb516) (o := .cells #[.slice A0_0 l0_0.length c0_0] 24 (0, 0)) (by (with_reducible repeat (first | refine blk_drewN ?_ _ | refine blk_drew ?_ | refine blk_alloc ?_ _)); exact BK516.out)) : gb540 ≠ gb516)); have n12_ := Aside0.mk ((by rw [hg]; exact Nat.ne_of_lt (blk_lt (g := gb522) (o := .cells #[.slice Ao16 t518.length co16] 24 (0, 0)) (by (with_reducible repeat (first | refine blk_drewN ?_ _ | refine blk_drew ?_ | refine blk_alloc ?_ _)); exact BK522.out)) : gb522 ≠ gb540)); have n13_ := Aside0.mk ((by rw [hg]; exact Nat.ne_of_gt (blk_lt (g := gb522) (o := .cells #[.slice Ao16 t518.length co16] 24 (0, 0)) (by (with_reducible repeat (first | refine blk_drewN ?_ _ | refine blk_drew ?_ | refine blk_alloc ?_ _)); exact BK522.out)) : gb540 ≠ gb522)); have n14_ := Aside0.mk ((by rw [hg]; exact Nat.ne_of_lt (blk_lt (g := gb535) (o := .cells #[.slice Ao71 t531.length co71] 24 (0, 0)) (by (with_reducible repeat (first | refine blk_drewN ?_ _ | refine blk_drew ?_ | refine blk_alloc ?_ _)); exact BK535.out)) : gb535 ≠ gb540)); have n15_ := Aside0.mk ((by rw [hg]; exact Nat.ne_of_gt (blk_lt (g := gb535) (o := .cells #[.slice Ao71 t531.length co71] 24 (0, 0)) (by (with_reducible repeat (first | refine blk_drewN ?_ _ | refine blk_drew ?_ | refine blk_alloc ?_ _)); exact BK535.out)) : gb540 ≠ gb535)); clear HO_523000; clear HO533; clear HO538; clear BK516; clear BK522; clear BK535; clear HB; have HO_523000 := n0_; have HO533 := n1_; have HO538 := n2_; have BK516 := n3_; have BK522 := n4_; have BK535 := n5_; have HB := n6_; have BK540 := n7_; have GW540 := n8_; have GE540 := n9_; have NB516_540 := n10_; have NB540_516 := n11_; have NB522_540 := n12_; have NB540_522 := n13_; have NB535_540 := n14_; have NB540_535 := n15_; clear n0_ n1_ n2_ n3_ n4_ n5_ n6_ n7_ n8_ n9_ n10_ n11_ n12_ n13_ n14_ n15_; clear hb hbox hg; obtain ⟨Ao78, co78, eo78⟩ := Kd.R_slice HO538.out; subst eo78; have hnb79 := NB540_516.out; have hnc79 := NB516_540.out; have hnb80 := NB540_522.out; have hnc80 := NB522_540.out; have hnb81 := NB540_535.out; have hnc81 := NB535_540.out; have hcz82_0 : w77.cell? ⟨gb540, 0, none⟩ = some (.slice none 0 0) := (blk_cell BK540.out 0).trans rfl; have hfz82_0 := blk_frozen BK540.out 0)))
                              go_ret
                              exact ⟨by first | rfl | (simp [errW_none, errW_some] <;> rfl) | (simp [*, errW_none, errW_some] <;> rfl), by repeat (first | (with_reducible first | exact HB.out | apply below_alloc | apply pw_below_drewN | apply below_drew1 | refine below_set ?_ GE516.out | refine below_set ?_ GE522.out | refine below_set ?_ GE535.out | refine below_set ?_ GE540.out) | exact HB.out)⟩
                        · rw [if_neg c41] at H
                          have c41b0 : (x13_3 == 0) = false := beq_eq_false_iff_ne.mpr c41
                          have c41b1 : (x13_3 != 0) = true := bne_iff_ne.mpr c41
                          obtain rfl := Option.some.inj H
                          have hnb83 := NB522_516.out
                          have hnc83 := NB516_522.out
                          have hcz84_0 : wr.cell? ⟨gb522, 0, none⟩ = some (.slice Ao16 t518.length co16) := (blk_cell BK522.out 0).trans rfl
                          have hfz84_0 := blk_frozen BK522.out 0
                          go_wp2
                          repeat (go_quiet (fail); try go_wp2)
                          go_ret
                          exact ⟨by first | rfl | (simp [errW_none, errW_some] <;> rfl) | (simp [*, errW_none, errW_some] <;> rfl), by repeat (first | (with_reducible first | exact HB.out | apply below_alloc | apply pw_below_drewN | apply below_drew1 | refine below_set ?_ GE516.out | refine below_set ?_ GE522.out) | exact HB.out)⟩
    · rw [if_neg c7] at H
      have c7b0 : (t521 == 0) = false := beq_eq_false_iff_ne.mpr c7
      have c7b1 : (t521 != 0) = true := bne_iff_ne.mpr c7
      obtain rfl := Option.some.inj H
      go_enter Tryd.func8, Tryd.ntmps8
      go_wp2_with (first | ((with_reducible refine gate_dst (N := 3) rfl ?_); (try (refine gate_guard (by rfl) ?_; dsimp only)); refine box_event ?hg (N := 3) ?hd (cs := #[.slice A0_0 l0_0.length c0_0]) (t := 24) ?hr ?_; (case hd => rfl); (case hg => rfl); (case hr => first | (go_simp; done) | (go_simp; rfl)); intro gb516 hg w85 hbox hb; have n0_ := Aside0.mk (below_step (by repeat (first | (with_reducible first | exact HB.out | apply below_alloc | apply pw_below_drewN | apply below_drew1) | exact HB.out)) hb); have n1_ := Aside0.mk (hbox); have n2_ := Aside0.mk ((by rw [hg]; exact (below_size (by repeat (first | (with_reducible first | exact HB.out | apply below_alloc | apply pw_below_drewN | apply below_drew1) | exact HB.out))) : w.heap.size ≤ gb516)); have n3_ := Aside0.mk ((by rw [hg]; exact (below_size (by repeat (first | (with_reducible first | exact HB.out | apply below_alloc | apply pw_below_drewN | apply below_drew1) | exact HB.out))) : w.heap.size ≤ gb516)); clear HB; have HB := n0_; have BK516 := n1_; have GW516 := n2_; have GE516 := n3_; clear n0_ n1_ n2_ n3_; clear hb hbox hg) | (go_at_call 18; (with_reducible refine (snowlinelaw02_sane.calls k  true _ ?hgl_ A4.out).mono ?_); (case hgl_ => exact HGl.out.below (by repeat (first | (with_reducible first | exact HB.out | apply below_alloc | apply pw_below_drewN | apply below_drew1 | refine below_set ?_ GE516.out) | exact HB.out)) (Nat.le_refl _)); rintro e w86 ⟨rfl, hb⟩; have n0_ := Aside0.mk (blk_below (g := gb516) (o := .cells #[.slice A0_0 l0_0.length c0_0] 24 (0, 0)) (by (with_reducible repeat (first | refine blk_drewN ?_ _ | refine blk_drew ?_ | refine blk_alloc ?_ _)); exact BK516.out) hb); have n1_ := Aside0.mk (below_step (by repeat (first | (with_reducible first | exact HB.out | apply below_alloc | apply pw_below_drewN | apply below_drew1 | refine below_set ?_ GE516.out) | exact HB.out)) hb); clear BK516; clear HB; have BK516 := n0_; have HB := n1_; clear n0_ n1_; (try clear hb); (try clear hb2); (try clear hk); (try clear hi); have hcz87_0 : w86.cell? ⟨gb516, 0, none⟩ = some (.slice A0_0 l0_0.length c0_0) := (blk_cell BK516.out 0).trans rfl; have hfz87_0 := blk_frozen BK516.out 0) | (go_at_call 29; (with_reducible refine (pack_Joined.calls _ _ l0_0 a1 t518 t521 _ ?side1 ?side2 A6.out).mono ?_); (case side1 => repeat (first | exact (Kd.C_below HR0_0.out HB.out) | (with_reducible refine Kd.C_alloc ?_ _) | (with_reducible refine Kd.C_drewN ?_ _) | (with_reducible refine Kd.C_drew ?_))); (case side2 => exact HC0_0.out); rintro e w88 ⟨v519, rfl, ho0, hb⟩; have n0_ := Aside0.mk (Kd.R_lower ho0 (below_size (by repeat (first | (with_reducible first | exact HB.out | apply below_alloc | apply pw_below_drewN | apply below_drew1 | refine below_set ?_ GE516.out) | exact HB.out)))); have n1_ := Aside0.mk (blk_below (g := gb516) (o := .cells #[.slice A0_0 l0_0.length c0_0] 24 (0, 0)) (by (with_reducible repeat (first | refine blk_drewN ?_ _ | refine blk_drew ?_ | refine blk_alloc ?_ _)); exact BK516.out) hb); have n2_ := Aside0.mk (below_step (by repeat (first | (with_reducible first | exact HB.out | apply below_alloc | apply pw_below_drewN | apply below_drew1 | refine below_set ?_ GE516.out) | exact HB.out)) hb); clear BK516; clear HB; have HO520 := n0_; have BK516 := n1_; have HB := n2_; clear n0_ n1_ n2_; (try clear hb); (try clear hb2); (try clear hk); (try clear hi); (try clear ho0)) | ((with_reducible refine gate_dst (N := 7) rfl ?_); (try (refine gate_guard (by rfl) ?_; dsimp only)); refine box_event ?hg (N := 7) ?hd (cs := #[.slice none 0 0]) (t := 24) ?hr ?_; (case hd => rfl); (case hg => rfl); (case hr => first | (go_simp; done) | (go_simp; rfl)); intro gb522 hg w89 hbox hb; have n0_ := Aside0.mk (Kd.R_below (by (with_reducible repeat (first | apply Kd.R_alloc | apply Kd.R_drewN | apply Kd.R_drew)); exact HO520.out) hb); have n1_ := Aside0.mk (blk_below (g := gb516) (o := .cells #[.slice A0_0 l0_0.length c0_0] 24 (0, 0)) (by (with_reducible repeat (first | refine blk_drewN ?_ _ | refine blk_drew ?_ | refine blk_alloc ?_ _)); exact BK516.out) hb); have n2_ := Aside0.mk (below_step (by repeat (first | (with_reducible first | exact HB.out | apply below_alloc | apply pw_below_drewN | apply below_drew1 | refine below_set ?_ GE516.out) | exact HB.out)) hb); have n3_ := Aside0.mk (hbox); have n4_ := Aside0.mk ((by rw [hg]; exact (below_size (by repeat (first | (with_reducible first | exact HB.out | apply below_alloc | apply pw_below_drewN | apply below_drew1 | refine below_set ?_ GE516.out) | exact HB.out))) : w.heap.size ≤ gb522)); have n5_ := Aside0.mk ((by rw [hg]; exact (below_size (by repeat (first | (with_reducible first | exact HB.out | apply below_alloc | apply pw_below_drewN | apply below_drew1 | refine below_set ?_ GE516.out) | exact HB.out))) : w.heap.size ≤ gb522)); have n6_ := Aside0.mk ((by rw [hg]; exact Nat.ne_of_lt (blk_lt (g := gb516) (o := .cells #[.slice A0_0 l0_0.length c0_0] 24 (0, 0)) (by (with_reducible repeat (first | refine blk_drewN ?_ _ | refine blk_drew ?_ | refine blk_alloc ?_ _)); exact BK516.out)) : gb516 ≠ gb522)); have n7_ := Aside0.mk ((by rw [hg]; exact Nat.ne_of_gt (blk_lt (g := gb516) (o := .cells #[.slice A0_0 l0_0.length c0_0] 24 (0, 0)) (by (with_reducible repeat (first | refine blk_drewN ?_ _ | refine blk_drew ?_ | refine blk_alloc ?_ _)); exact BK516.out)) : gb522 ≠ gb516)); clear HO520; clear BK516; clear HB; have HO520 := n0_; have BK516 := n1_; have HB := n2_; have BK522 := n3_; have GW522 := n4_; have GE522 := n5_; have NB516_522 := n6_; have NB522_516 := n7_; clear n0_ n1_ n2_ n3_ n4_ n5_ n6_ n7_; clear hb hbox hg; obtain ⟨Ao90, co90, eo90⟩ := Kd.R_slice HO520.out; subst eo90; have hnb91 := NB522_516.out; have hnc91 := NB516_522.out; have hcz92_0 : w89.cell? ⟨gb522, 0, none⟩ = some (.slice none 0 0) := (blk_cell BK522.out 0).trans rfl; have hfz92_0 := blk_frozen BK522.out 0))
      repeat (go_quiet (first | ((with_reducible refine gate_dst (N := 3) rfl ?_); (try (refine gate_guard (by rfl) ?_; dsimp only)); refine box_event ?hg (N := 3) ?hd (cs := #[.slice A0_0 l0_0.length c0_0]) (t := 24) ?hr ?_; (case hd => rfl); (case hg => rfl); (case hr => first | (go_simp; done) | (go_simp; rfl)); intro gb516 hg w85 hbox hb; have n0_ := Aside0.mk (below_step (by repeat (first | (with_reducible first | exact HB.out | apply below_alloc | apply pw_below_drewN | apply below_drew1) | exact HB.out)) hb); have n1_ := Aside0.mk (hbox); have n2_ := Aside0.mk ((by rw [hg]; exact (below_size (by repeat (first | (with_reducible first | exact HB.out | apply below_alloc | apply pw_below_drewN | apply below_drew1) | exact HB.out))) : w.heap.size ≤ gb516)); have n3_ := Aside0.mk ((by rw [hg]; exact (below_size (by repeat (first | (with_reducible first | exact HB.out | apply below_alloc | apply pw_below_drewN | apply below_drew1) | exact HB.out))) : w.heap.size ≤ gb516)); clear HB; have HB := n0_; have BK516 := n1_; have GW516 := n2_; have GE516 := n3_; clear n0_ n1_ n2_ n3_; clear hb hbox hg) | (go_at_call 18; (with_reducible refine (snowlinelaw02_sane.calls k  true _ ?hgl_ A4.out).mono ?_); (case hgl_ => exact HGl.out.below (by repeat (first | (with_reducible first | exact HB.out | apply below_alloc | apply pw_below_drewN | apply below_drew1 | refine below_set ?_ GE516.out) | exact HB.out)) (Nat.le_refl _)); rintro e w86 ⟨rfl, hb⟩; have n0_ := Aside0.mk (blk_below (g := gb516) (o := .cells #[.slice A0_0 l0_0.length c0_0] 24 (0, 0)) (by (with_reducible repeat (first | refine blk_drewN ?_ _ | refine blk_drew ?_ | refine blk_alloc ?_ _)); exact BK516.out) hb); have n1_ := Aside0.mk (below_step (by repeat (first | (with_reducible first | exact HB.out | apply below_alloc | apply pw_below_drewN | apply below_drew1 | refine below_set ?_ GE516.out) | exact HB.out)) hb); clear BK516; clear HB; have BK516 := n0_; have HB := n1_; clear n0_ n1_; (try clear hb); (try clear hb2); (try clear hk); (try clear hi); have hcz87_0 : w86.cell? ⟨gb516, 0, none⟩ = some (.slice A0_0 l0_0.length c0_0) := (blk_cell BK516.out 0).trans rfl; have hfz87_0 := blk_frozen BK516.out 0) | (go_at_call 29; (with_reducible refine (pack_Joined.calls _ _ l0_0 a1 t518 t521 _ ?side1 ?side2 A6.out).mono ?_); (case side1 => repeat (first | exact (Kd.C_below HR0_0.out HB.out) | (with_reducible refine Kd.C_alloc ?_ _) | (with_reducible refine Kd.C_drewN ?_ _) | (with_reducible refine Kd.C_drew ?_))); (case side2 => exact HC0_0.out); rintro e w88 ⟨v519, rfl, ho0, hb⟩; have n0_ := Aside0.mk (Kd.R_lower ho0 (below_size (by repeat (first | (with_reducible first | exact HB.out | apply below_alloc | apply pw_below_drewN | apply below_drew1 | refine below_set ?_ GE516.out) | exact HB.out)))); have n1_ := Aside0.mk (blk_below (g := gb516) (o := .cells #[.slice A0_0 l0_0.length c0_0] 24 (0, 0)) (by (with_reducible repeat (first | refine blk_drewN ?_ _ | refine blk_drew ?_ | refine blk_alloc ?_ _)); exact BK516.out) hb); have n2_ := Aside0.mk (below_step (by repeat (first | (with_reducible first | exact HB.out | apply below_alloc | apply pw_below_drewN | apply below_drew1 | refine below_set ?_ GE516.out) | exact HB.out)) hb); clear BK516; clear HB; have HO520 := n0_; have BK516 := n1_; have HB := n2_; clear n0_ n1_ n2_; (try clear hb); (try clear hb2); (try clear hk); (try clear hi); (try clear ho0)) | ((with_reducible refine gate_dst (N := 7) rfl ?_); (try (refine gate_guard (by rfl) ?_; dsimp only)); refine box_event ?hg (N := 7) ?hd (cs := #[.slice none 0 0]) (t := 24) ?hr ?_; (case hd => rfl); (case hg => rfl); (case hr => first | (go_simp; done) | (go_simp; rfl)); intro gb522 hg w89 hbox hb; have n0_ := Aside0.mk (Kd.R_below (by (with_reducible repeat (first | apply Kd.R_alloc | apply Kd.R_drewN | apply Kd.R_drew)); exact HO520.out) hb); have n1_ := Aside0.mk (blk_below (g := gb516) (o := .cells #[.slice A0_0 l0_0.length c0_0] 24 (0, 0)) (by (with_reducible repeat (first | refine blk_drewN ?_ _ | refine blk_drew ?_ | refine blk_alloc ?_ _)); exact BK516.out) hb); have n2_ := Aside0.mk (below_step (by repeat (first | (with_reducible first | exact HB.out | apply below_alloc | apply pw_below_drewN | apply below_drew1 | refine below_set ?_ GE516.out) | exact HB.out)) hb); have n3_ := Aside0.mk (hbox); have n4_ := Aside0.mk ((by rw [hg]; exact (below_size (by repeat (first | (with_reducible first | exact HB.out | apply below_alloc | apply pw_below_drewN | apply below_drew1 | refine below_set ?_ GE516.out) | exact HB.out))) : w.heap.size ≤ gb522)); have n5_ := Aside0.mk ((by rw [hg]; exact (below_size (by repeat (first | (with_reducible first | exact HB.out | apply below_alloc | apply pw_below_drewN | apply below_drew1 | refine below_set ?_ GE516.out) | exact HB.out))) : w.heap.size ≤ gb522)); have n6_ := Aside0.mk ((by rw [hg]; exact Nat.ne_of_lt (blk_lt (g := gb516) (o := .cells #[.slice A0_0 l0_0.length c0_0] 24 (0, 0)) (by (with_reducible repeat (first | refine blk_drewN ?_ _ | refine blk_drew ?_ | refine blk_alloc ?_ _)); exact BK516.out)) : gb516 ≠ gb522)); have n7_ := Aside0.mk ((by rw [hg]; exact Nat.ne_of_gt (blk_lt (g := gb516) (o := .cells #[.slice A0_0 l0_0.length c0_0] 24 (0, 0)) (by (with_reducible repeat (first | refine blk_drewN ?_ _ | refine blk_drew ?_ | refine blk_alloc ?_ _)); exact BK516.out)) : gb522 ≠ gb516)); clear HO520; clear BK516; clear HB; have HO520 := n0_; have BK516 := n1_; have HB := n2_; have BK522 := n3_; have GW522 := n4_; have GE522 := n5_; have NB516_522 := n6_; have NB522_516 := n7_; clear n0_ n1_ n2_ n3_ n4_ n5_ n6_ n7_; clear hb hbox hg; obtain ⟨Ao90, co90, eo90⟩ := Kd.R_slice HO520.out; subst eo90; have hnb91 := NB522_516.out; have hnc91 := NB516_522.out; have hcz92_0 : w89.cell? ⟨gb522, 0, none⟩ = some (.slice none 0 0) := (blk_cell BK522.out 0).trans rfl; have hfz92_0 := blk_frozen BK522.out 0)); try go_wp2_with (first | ((with_reducible refine gate_dst (N := 3) rfl ?_); (try (refine gate_guard (by rfl) ?_; dsimp only)); refine box_event ?hg (N := 3) ?hd (cs := #[.slice A0_0 l0_0.length c0_0]) (t := 24) ?hr ?_; (case hd => rfl); (case hg => rfl); (case hr => first | (go_simp; done) | (go_simp; rfl)); intro gb516 hg w85 hbox hb; have n0_ := Aside0.mk (below_step (by repeat (first | (with_reducible first | exact HB.out | apply below_alloc | apply pw_below_drewN | apply below_drew1) | exact HB.out)) hb); have n1_ := Aside0.mk (hbox); have n2_ := Aside0.mk ((by rw [hg]; exact (below_size (by repeat (first | (with_reducible first | exact HB.out | apply below_alloc | apply pw_below_drewN | apply below_drew1) | exact HB.out))) : w.heap.size ≤ gb516)); have n3_ := Aside0.mk ((by rw [hg]; exact (below_size (by repeat (first | (with_reducible first | exact HB.out | apply below_alloc | apply pw_below_drewN | apply below_drew1) | exact HB.out))) : w.heap.size ≤ gb516)); clear HB; have HB := n0_; have BK516 := n1_; have GW516 := n2_; have GE516 := n3_; clear n0_ n1_ n2_ n3_; clear hb hbox hg) | (go_at_call 18; (with_reducible refine (snowlinelaw02_sane.calls k  true _ ?hgl_ A4.out).mono ?_); (case hgl_ => exact HGl.out.below (by repeat (first | (with_reducible first | exact HB.out | apply below_alloc | apply pw_below_drewN | apply below_drew1 | refine below_set ?_ GE516.out) | exact HB.out)) (Nat.le_refl _)); rintro e w86 ⟨rfl, hb⟩; have n0_ := Aside0.mk (blk_below (g := gb516) (o := .cells #[.slice A0_0 l0_0.length c0_0] 24 (0, 0)) (by (with_reducible repeat (first | refine blk_drewN ?_ _ | refine blk_drew ?_ | refine blk_alloc ?_ _)); exact BK516.out) hb); have n1_ := Aside0.mk (below_step (by repeat (first | (with_reducible first | exact HB.out | apply below_alloc | apply pw_below_drewN | apply below_drew1 | refine below_set ?_ GE516.out) | exact HB.out)) hb); clear BK516; clear HB; have BK516 := n0_; have HB := n1_; clear n0_ n1_; (try clear hb); (try clear hb2); (try clear hk); (try clear hi); have hcz87_0 : w86.cell? ⟨gb516, 0, none⟩ = some (.slice A0_0 l0_0.length c0_0) := (blk_cell BK516.out 0).trans rfl; have hfz87_0 := blk_frozen BK516.out 0) | (go_at_call 29; (with_reducible refine (pack_Joined.calls _ _ l0_0 a1 t518 t521 _ ?side1 ?side2 A6.out).mono ?_); (case side1 => repeat (first | exact (Kd.C_below HR0_0.out HB.out) | (with_reducible refine Kd.C_alloc ?_ _) | (with_reducible refine Kd.C_drewN ?_ _) | (with_reducible refine Kd.C_drew ?_))); (case side2 => exact HC0_0.out); rintro e w88 ⟨v519, rfl, ho0, hb⟩; have n0_ := Aside0.mk (Kd.R_lower ho0 (below_size (by repeat (first | (with_reducible first | exact HB.out | apply below_alloc | apply pw_below_drewN | apply below_drew1 | refine below_set ?_ GE516.out) | exact HB.out)))); have n1_ := Aside0.mk (blk_below (g := gb516) (o := .cells #[.slice A0_0 l0_0.length c0_0] 24 (0, 0)) (by (with_reducible repeat (first | refine blk_drewN ?_ _ | refine blk_drew ?_ | refine blk_alloc ?_ _)); exact BK516.out) hb); have n2_ := Aside0.mk (below_step (by repeat (first | (with_reducible first | exact HB.out | apply below_alloc | apply pw_below_drewN | apply below_drew1 | refine below_set ?_ GE516.out) | exact HB.out)) hb); clear BK516; clear HB; have HO520 := n0_; have BK516 := n1_; have HB := n2_; clear n0_ n1_ n2_; (try clear hb); (try clear hb2); (try clear hk); (try clear hi); (try clear ho0)) | ((with_reducible refine gate_dst (N := 7) rfl ?_); (try (refine gate_guard (by rfl) ?_; dsimp only)); refine box_event ?hg (N := 7) ?hd (cs := #[.slice none 0 0]) (t := 24) ?hr ?_; (case hd => rfl); (case hg => rfl); (case hr => first | (go_simp; done) | (go_simp; rfl)); intro gb522 hg w89 hbox hb; have n0_ := Aside0.mk (Kd.R_below (by (with_reducible repeat (first | apply Kd.R_alloc | apply Kd.R_drewN | apply Kd.R_drew)); exact HO520.out) hb); have n1_ := Aside0.mk (blk_below (g := gb516) (o := .cells #[.slice A0_0 l0_0.length c0_0] 24 (0, 0)) (by (with_reducible repeat (first | refine blk_drewN ?_ _ | refine blk_drew ?_ | refine blk_alloc ?_ _)); exact BK516.out) hb); have n2_ := Aside0.mk (below_step (by repeat (first | (with_reducible first | exact HB.out | apply below_alloc | apply pw_below_drewN | apply below_drew1 | refine below_set ?_ GE516.out) | exact HB.out)) hb); have n3_ := Aside0.mk (hbox); have n4_ := Aside0.mk ((by rw [hg]; exact (below_size (by repeat (first | (with_reducible first | exact HB.out | apply below_alloc | apply pw_below_drewN | apply below_drew1 | refine below_set ?_ GE516.out) | exact HB.out))) : w.heap.size ≤ gb522)); have n5_ := Aside0.mk ((by rw [hg]; exact (below_size (by repeat (first | (with_reducible first | exact HB.out | apply below_alloc | apply pw_below_drewN | apply below_drew1 | refine below_set ?_ GE516.out) | exact HB.out))) : w.heap.size ≤ gb522)); have n6_ := Aside0.mk ((by rw [hg]; exact Nat.ne_of_lt (blk_lt (g := gb516) (o := .cells #[.slice A0_0 l0_0.length c0_0] 24 (0, 0)) (by (with_reducible repeat (first | refine blk_drewN ?_ _ | refine blk_drew ?_ | refine blk_alloc ?_ _)); exact BK516.out)) : gb516 ≠ gb522)); have n7_ := Aside0.mk ((by rw [hg]; exact Nat.ne_of_gt (blk_lt (g := gb516) (o := .cells #[.slice A0_0 l0_0.length c0_0] 24 (0, 0)) (by (with_reducible repeat (first | refine blk_drewN ?_ _ | refine blk_drew ?_ | refine blk_alloc ?_ _)); exact BK516.out)) : gb522 ≠ gb516)); clear HO520; clear BK516; clear HB; have HO520 := n0_; have BK516 := n1_; have HB := n2_; have BK522 := n3_; have GW522 := n4_; have GE522 := n5_; have NB516_522 := n6_; have NB522_516 := n7_; clear n0_ n1_ n2_ n3_ n4_ n5_ n6_ n7_; clear hb hbox hg; obtain ⟨Ao90, co90, eo90⟩ := Kd.R_slice HO520.out; subst eo90; have hnb91 := NB522_516.out; have hnc91 := NB516_522.out; have hcz92_0 : w89.cell? ⟨gb522, 0, none⟩ = some (.slice none 0 0) := (blk_cell BK522.out 0).trans rfl; have hfz92_0 := blk_frozen BK522.out 0)))
      go_ret
      exact ⟨by first | rfl | (simp [errW_none, errW_some] <;> rfl) | (simp [*, errW_none, errW_some] <;> rfl), by repeat (first | (with_reducible first | exact HB.out | apply below_alloc | apply pw_below_drewN | apply below_drew1 | refine below_set ?_ GE516.out | refine below_set ?_ GE522.out) | exact HB.out)⟩
  · replace c5 := Bool.eq_false_iff.mpr c5
    subst c5
    have H1 : (some false) = some r := by rw [if_neg (show ¬ (false = true) by decide)] at H; exact H
    clear H
    have H := H1
    clear H1
    obtain rfl := Option.some.inj H
    go_enter Tryd.func8, Tryd.ntmps8
    go_wp2_with (first | ((with_reducible refine gate_dst (N := 3) rfl ?_); (try (refine gate_guard (by rfl) ?_; dsimp only)); refine box_event ?hg (N := 3) ?hd (cs := #[.slice A0_0 l0_0.length c0_0]) (t := 24) ?hr ?_; (case hd => rfl); (case hg => rfl); (case hr => first | (go_simp; done) | (go_simp; rfl)); intro gb516 hg w93 hbox hb; have n0_ := Aside0.mk (below_step (by repeat (first | (with_reducible first | exact HB.out | apply below_alloc | apply pw_below_drewN | apply below_drew1) | exact HB.out)) hb); have n1_ := Aside0.mk (hbox); have n2_ := Aside0.mk ((by rw [hg]; exact (below_size (by repeat (first | (with_reducible first | exact HB.out | apply below_alloc | apply pw_below_drewN | apply below_drew1) | exact HB.out))) : w.heap.size ≤ gb516)); have n3_ := Aside0.mk ((by rw [hg]; exact (below_size (by repeat (first | (with_reducible first | exact HB.out | apply below_alloc | apply pw_below_drewN | apply below_drew1) | exact HB.out))) : w.heap.size ≤ gb516)); clear HB; have HB := n0_; have BK516 := n1_; have GW516 := n2_; have GE516 := n3_; clear n0_ n1_ n2_ n3_; clear hb hbox hg) | (go_at_call 18; (with_reducible refine (snowlinelaw02_sane.calls k  false _ ?hgl_ A4.out).mono ?_); (case hgl_ => exact HGl.out.below (by repeat (first | (with_reducible first | exact HB.out | apply below_alloc | apply pw_below_drewN | apply below_drew1 | refine below_set ?_ GE516.out) | exact HB.out)) (Nat.le_refl _)); rintro e w94 ⟨rfl, hb⟩; have n0_ := Aside0.mk (blk_below (g := gb516) (o := .cells #[.slice A0_0 l0_0.length c0_0] 24 (0, 0)) (by (with_reducible repeat (first | refine blk_drewN ?_ _ | refine blk_drew ?_ | refine blk_alloc ?_ _)); exact BK516.out) hb); have n1_ := Aside0.mk (below_step (by repeat (first | (with_reducible first | exact HB.out | apply below_alloc | apply pw_below_drewN | apply below_drew1 | refine below_set ?_ GE516.out) | exact HB.out)) hb); clear BK516; clear HB; have BK516 := n0_; have HB := n1_; clear n0_ n1_; (try clear hb); (try clear hb2); (try clear hk); (try clear hi)))
    repeat (go_quiet (first | ((with_reducible refine gate_dst (N := 3) rfl ?_); (try (refine gate_guard (by rfl) ?_; dsimp only)); refine box_event ?hg (N := 3) ?hd (cs := #[.slice A0_0 l0_0.length c0_0]) (t := 24) ?hr ?_; (case hd => rfl); (case hg => rfl); (case hr => first | (go_simp; done) | (go_simp; rfl)); intro gb516 hg w93 hbox hb; have n0_ := Aside0.mk (below_step (by repeat (first | (with_reducible first | exact HB.out | apply below_alloc | apply pw_below_drewN | apply below_drew1) | exact HB.out)) hb); have n1_ := Aside0.mk (hbox); have n2_ := Aside0.mk ((by rw [hg]; exact (below_size (by repeat (first | (with_reducible first | exact HB.out | apply below_alloc | apply pw_below_drewN | apply below_drew1) | exact HB.out))) : w.heap.size ≤ gb516)); have n3_ := Aside0.mk ((by rw [hg]; exact (below_size (by repeat (first | (with_reducible first | exact HB.out | apply below_alloc | apply pw_below_drewN | apply below_drew1) | exact HB.out))) : w.heap.size ≤ gb516)); clear HB; have HB := n0_; have BK516 := n1_; have GW516 := n2_; have GE516 := n3_; clear n0_ n1_ n2_ n3_; clear hb hbox hg) | (go_at_call 18; (with_reducible refine (snowlinelaw02_sane.calls k  false _ ?hgl_ A4.out).mono ?_); (case hgl_ => exact HGl.out.below (by repeat (first | (with_reducible first | exact HB.out | apply below_alloc | apply pw_below_drewN | apply below_drew1 | refine below_set ?_ GE516.out) | exact HB.out)) (Nat.le_refl _)); rintro e w94 ⟨rfl, hb⟩; have n0_ := Aside0.mk (blk_below (g := gb516) (o := .cells #[.slice A0_0 l0_0.length c0_0] 24 (0, 0)) (by (with_reducible repeat (first | refine blk_drewN ?_ _ | refine blk_drew ?_ | refine blk_alloc ?_ _)); exact BK516.out) hb); have n1_ := Aside0.mk (below_step (by repeat (first | (with_reducible first | exact HB.out | apply below_alloc | apply pw_below_drewN | apply below_drew1 | refine below_set ?_ GE516.out) | exact HB.out)) hb); clear BK516; clear HB; have BK516 := n0_; have HB := n1_; clear n0_ n1_; (try clear hb); (try clear hb2); (try clear hk); (try clear hi))); try go_wp2_with (first | ((with_reducible refine gate_dst (N := 3) rfl ?_); (try (refine gate_guard (by rfl) ?_; dsimp only)); refine box_event ?hg (N := 3) ?hd (cs := #[.slice A0_0 l0_0.length c0_0]) (t := 24) ?hr ?_; (case hd => rfl); (case hg => rfl); (case hr => first | (go_simp; done) | (go_simp; rfl)); intro gb516 hg w93 hbox hb; have n0_ := Aside0.mk (below_step (by repeat (first | (with_reducible first | exact HB.out | apply below_alloc | apply pw_below_drewN | apply below_drew1) | exact HB.out)) hb); have n1_ := Aside0.mk (hbox); have n2_ := Aside0.mk ((by rw [hg]; exact (below_size (by repeat (first | (with_reducible first | exact HB.out | apply below_alloc | apply pw_below_drewN | apply below_drew1) | exact HB.out))) : w.heap.size ≤ gb516)); have n3_ := Aside0.mk ((by rw [hg]; exact (below_size (by repeat (first | (with_reducible first | exact HB.out | apply below_alloc | apply pw_below_drewN | apply below_drew1) | exact HB.out))) : w.heap.size ≤ gb516)); clear HB; have HB := n0_; have BK516 := n1_; have GW516 := n2_; have GE516 := n3_; clear n0_ n1_ n2_ n3_; clear hb hbox hg) | (go_at_call 18; (with_reducible refine (snowlinelaw02_sane.calls k  false _ ?hgl_ A4.out).mono ?_); (case hgl_ => exact HGl.out.below (by repeat (first | (with_reducible first | exact HB.out | apply below_alloc | apply pw_below_drewN | apply below_drew1 | refine below_set ?_ GE516.out) | exact HB.out)) (Nat.le_refl _)); rintro e w94 ⟨rfl, hb⟩; have n0_ := Aside0.mk (blk_below (g := gb516) (o := .cells #[.slice A0_0 l0_0.length c0_0] 24 (0, 0)) (by (with_reducible repeat (first | refine blk_drewN ?_ _ | refine blk_drew ?_ | refine blk_alloc ?_ _)); exact BK516.out) hb); have n1_ := Aside0.mk (below_step (by repeat (first | (with_reducible first | exact HB.out | apply below_alloc | apply pw_below_drewN | apply below_drew1 | refine below_set ?_ GE516.out) | exact HB.out)) hb); clear BK516; clear HB; have BK516 := n0_; have HB := n1_; clear n0_ n1_; (try clear hb); (try clear hb2); (try clear hk); (try clear hi))))
    go_ret
    exact ⟨by first | rfl | (simp [errW_none, errW_some] <;> rfl) | (simp [*, errW_none, errW_some] <;> rfl), by repeat (first | (with_reducible first | exact HB.out | apply below_alloc | apply pw_below_drewN | apply below_drew1 | refine below_set ?_ GE516.out) | exact HB.out)⟩
end Go.Proofs.YtpldcikmlpegpaaDoor.PB
end
section
namespace Go.Proofs.YtpldcikmlpegpaaDoor.Plain
open Go.RowKit Go.Proofs.YtpldcikmlpegpaaDoor.PB
abbrev Ly := S48
@[ext] theorem Ly.ext' {a b : Ly} (h0 : a.f0 = b.f0) (h1 : a.f1 = b.f1) (h2 : a.f2 = b.f2) : a = b := by
  cases a; cases b; simp_all
def Fit (l : Ly) : Prop := 0 ≤ l.f0 ∧ 0 ≤ l.f1 ∧ l.f1 ≤ l.f0 / 20 ∧ 0 ≤ l.f2
def Fits (ls : List Ly) : Prop := ∀ l ∈ ls, Fit l
theorem Fits.nil : Fits [] := by intro l h; cases h
theorem Fits.cons {l : Ly} {ls : List Ly} (h : Fit l) (hs : Fits ls) : Fits (l :: ls) := by
  intro x hx
  rcases List.mem_cons.mp hx with rfl | hx
  · exact h
  · exact hs x hx
theorem Fits.head {l : Ly} {ls : List Ly} (h : Fits (l :: ls)) : Fit l := h l List.mem_cons_self
theorem Fits.tail {l : Ly} {ls : List Ly} (h : Fits (l :: ls)) : Fits ls := fun x hx => h x (List.mem_cons_of_mem _ hx)
def water : List Ly → Int
  | [] => 0
  | l :: ls => l.f0 + l.f1 + water ls
def cold : List Ly → Int
  | [] => 0
  | l :: ls => l.f2 + cold ls
theorem water_nonneg {ls : List Ly} (h : Fits ls) : 0 ≤ water ls := by
  induction ls with
  | nil => exact Int.le_refl _
  | cons l ls ih =>
    have := ih h.tail
    obtain ⟨a, b, c, d⟩ := h.head
    simp only [water]
    omega
theorem cold_nonneg {ls : List Ly} (h : Fits ls) : 0 ≤ cold ls := by
  induction ls with
  | nil => exact Int.le_refl _
  | cons l ls ih =>
    have := ih h.tail
    obtain ⟨a, b, c, d⟩ := h.head
    simp only [cold]
    omega
end Go.Proofs.YtpldcikmlpegpaaDoor.Plain
end
section
namespace Go.Proofs.YtpldcikmlpegpaaDoor.Plain
open Go.RowKit Go.Proofs.YtpldcikmlpegpaaDoor.PB
def times (f : List Ly → List Ly × Int) : Nat → List Ly → List Ly × Int × Int
  | 0, L => (L, 0, 0)
  | _ + 1, [] => ([], 0, 0)
  | n + 1, l :: ls => ((times f n (f (l :: ls)).1).1, (f (l :: ls)).2 + (times f n (f (l :: ls)).1).2.1, 1 + (times f n (f (l :: ls)).1).2.2)
def Live (ls : List Ly) : Prop := ∀ l ∈ ls, Fit l ∧ 1 ≤ l.f0
theorem Live.fits {ls : List Ly} (h : Live ls) : Fits ls := fun l hl => (h l hl).1
theorem Live.nil : Live [] := by intro l h; cases h
theorem Live.cons {l : Ly} {ls : List Ly} (h : Fit l) (h1 : 1 ≤ l.f0) (hs : Live ls) : Live (l :: ls) := by
  intro x hx
  rcases List.mem_cons.mp hx with rfl | hx
  · exact ⟨h, h1⟩
  · exact hs x hx
theorem Live.head {l : Ly} {ls : List Ly} (h : Live (l :: ls)) : Fit l ∧ 1 ≤ l.f0 := h l List.mem_cons_self
theorem Live.tail {l : Ly} {ls : List Ly} (h : Live (l :: ls)) : Live ls := fun x hx => h x (List.mem_cons_of_mem _ hx)
structure Round (f : List Ly → List Ly × Int) (d : Int) : Prop where
  live : ∀ {l ls}, Live (l :: ls) → Live (f (l :: ls)).1 ∧ 0 ≤ (f (l :: ls)).2
  water : ∀ {l ls}, Live (l :: ls) → water (f (l :: ls)).1 + (f (l :: ls)).2 + d = water (l :: ls)
  cold : ∀ {l ls}, Live (l :: ls) → cold (f (l :: ls)).1 ≤ cold (l :: ls)
  len : ∀ {l ls}, Live (l :: ls) → (f (l :: ls)).1.length ≤ (l :: ls).length
section
variable {f : List Ly → List Ly × Int} {d : Int}
end
def freezes : List Ly → Int → List Ly × Int
  | [], m => ([], m)
  | l :: ls, m => (⟨l.f0 + min m l.f1, l.f1 - min m l.f1, l.f2⟩ :: (freezes ls (m - min m l.f1)).1, (freezes ls (m - min m l.f1)).2)
def chill : List Ly → Int → List Ly
  | [], _ => []
  | l :: ls, m => ⟨l.f0, l.f1, l.f2 + m⟩ :: ls
def freeze (ls : List Ly) (m : Int) : List Ly := chill (freezes ls m).1 (freezes ls m).2
end Go.Proofs.YtpldcikmlpegpaaDoor.Plain
end
section
namespace Go.Proofs.YtpldcikmlpegpaaDoor.Plain
open Go.RowKit Go.Proofs.YtpldcikmlpegpaaDoor.PB
theorem wr (x : Int) (h : -9223372036854775808 ≤ x ∧ x ≤ 9223372036854775807) : wrap64 x = x := by
  unfold wrap64
  omega
def Right (l : Ly) : Prop := 1 ≤ l.f0 ∧ l.f0 ≤ 65536 ∧ 0 ≤ l.f2 ∧ l.f2 ≤ 65536 ∧ 0 ≤ l.f1 ∧ l.f1 ≤ l.f0 / 20 ∧ (l.f1 = 0 ∨ l.f2 = 0)
instance (l : Ly) : Decidable (Right l) := inferInstanceAs (Decidable (_ ∧ _))
def Rights (ls : List Ly) : Prop := ∀ l ∈ ls, Right l
instance (ls : List Ly) : Decidable (Rights ls) := inferInstanceAs (Decidable (∀ l ∈ ls, Right l))
def Valid (ls : List Ly) : Prop := ls.length ≤ 64 ∧ Rights ls ∧ water ls ≤ 65536 ∧ cold ls ≤ 65536
instance (ls : List Ly) : Decidable (Valid ls) := inferInstanceAs (Decidable (_ ∧ _))
def checkE (ls : List Ly) : Int := if Valid ls then 0 else 20
theorem Right.live {l : Ly} (h : Right l) : Fit l ∧ 1 ≤ l.f0 := by
  obtain ⟨a, b, c, d, e, f, g⟩ := h
  unfold Fit
  omega
theorem Rights.live {ls : List Ly} (h : Rights ls) : Live ls := fun l hl => (h l hl).live
theorem Rights.head {l : Ly} {ls : List Ly} (h : Rights (l :: ls)) : Right l := h l List.mem_cons_self
theorem Rights.tail {l : Ly} {ls : List Ly} (h : Rights (l :: ls)) : Rights ls := fun x hx => h x (List.mem_cons_of_mem _ hx)
theorem Valid.live {ls : List Ly} (h : Valid ls) : Live ls := h.2.1.live
theorem from_eq (a b c : Int) : pack_from.f a b c = some (decide (b ≤ a ∧ a ≤ c)) := by
  unfold pack_from.f
  by_cases h : a ≥ b
  · rw [if_pos h]; congr 1; simp; omega
  · rw [if_neg h]; congr 1; symm; simp; omega
theorem some_true {p : Prop} [Decidable p] (h : p) : (some true : Option Bool) = some (decide p) := by rw [decide_eq_true h]
theorem some_false {p : Prop} [Decidable p] (h : ¬ p) : (some false : Option Bool) = some (decide p) := by rw [decide_eq_false h]
theorem right_eq (a b c : Int) : pack_right.f a b c = some (decide (Right ⟨a, b, c⟩)) := by
  unfold pack_right.f
  simp only [from_eq, Option.bind_some, pack_hold.f, decide_eq_true_eq]
  by_cases h1 : 1 ≤ a ∧ a ≤ 65536
  · have ht : wrap64 (Int.tdiv a 20) = a / 20 := by rw [Int.tdiv_eq_ediv_of_nonneg (by omega), wr _ (by omega)]
    rw [if_pos h1]
    by_cases h2 : 0 ≤ c ∧ c ≤ 65536
    · rw [if_pos h2, ht]
      by_cases h3 : 0 ≤ b ∧ b ≤ a / 20
      · rw [if_pos h3]
        by_cases h4 : b = 0
        · rw [if_pos h4]; exact some_true ⟨h1.1, h1.2, h2.1, h2.2, h3.1, h3.2, .inl h4⟩
        · rw [if_neg h4]
          by_cases h5 : c = 0
          · rw [show (c == 0) = true by simp [h5]]; exact some_true ⟨h1.1, h1.2, h2.1, h2.2, h3.1, h3.2, .inr h5⟩
          · rw [show (c == 0) = false by simp [h5]]; exact some_false (fun h => h.2.2.2.2.2.2.elim h4 h5)
      · rw [if_neg h3]; exact some_false (fun h => h3 ⟨h.2.2.2.2.1, h.2.2.2.2.2.1⟩)
    · rw [if_neg h2]; exact some_false (fun h => h2 ⟨h.2.2.1, h.2.2.2.1⟩)
  · rw [if_neg h1]; exact some_false (fun h => h1 ⟨h.1, h.2.1⟩)
theorem water_app (xs ys : List Ly) : water (xs ++ ys) = water xs + water ys := by
  induction xs with
  | nil => simp [water]
  | cons x xs ih => simp only [List.cons_append, water, ih]; omega
theorem cold_app (xs ys : List Ly) : cold (xs ++ ys) = cold xs + cold ys := by
  induction xs with
  | nil => simp [cold]
  | cons x xs ih => simp only [List.cons_append, cold, ih]; omega
theorem rd_drop {ls : List Ly} {i : Nat} (h : i < ls.length) : ls.drop i = rd_T48 ls (i : Int) :: ls.drop (i + 1) := by
  rw [List.drop_eq_getElem_cons h]
  congr 1
  simp [rd_T48, List.getD_eq_getElem?_getD, h]
theorem sums_loop (ls : List Ly) (hr : Rights ls) (hl : ls.length ≤ 128) : ∀ (d k i : Nat) (w c : Int), i + d = ls.length → d < k → 0 ≤ w → w ≤ 131072 * (i : Int) → 0 ≤ c → c ≤ 65536 * (i : Int) →
    pack_sums.l0 k w c ls (ls.length : Int) (i : Int) = some (w + water (ls.drop i), c + cold (ls.drop i)) := by
  intro d
  induction d with
  | zero =>
    intro k i w c hi hk _ _ _ _
    obtain ⟨k, rfl⟩ : ∃ j, k = j + 1 := ⟨k - 1, by omega⟩
    unfold pack_sums.l0
    rw [if_neg (by omega), List.drop_eq_nil_of_le (by omega)]
    simp [water, cold]
  | succ d ih =>
    intro k i w c hi hk h0 h1 h2 h3
    obtain ⟨k, rfl⟩ : ∃ j, k = j + 1 := ⟨k - 1, by omega⟩
    have hm : Right (rd_T48 ls (i : Int)) := hr _ (by
      have : rd_T48 ls (i : Int) ∈ ls.drop i := by rw [rd_drop (by omega)]; exact List.mem_cons_self
      exact List.mem_of_mem_drop this)
    obtain ⟨a, b, cc, dd, e, f, g⟩ := hm
    unfold pack_sums.l0
    rw [if_pos (by omega), if_pos (by omega), if_pos (by omega)]
    rw [rd_drop (show i < ls.length by omega)]
    simp only [water, cold]
    rw [wr ((rd_T48 ls (i : Int)).f0 + _) (by omega), wr (w + _) (by omega), wr (c + _) (by omega), wr ((i : Int) + 1) (by omega)]
    have := ih k (i + 1) (w + ((rd_T48 ls (i : Int)).f0 + (rd_T48 ls (i : Int)).f1)) (c + (rd_T48 ls (i : Int)).f2) (by omega) (by omega) (by omega) (by push_cast; omega) (by omega) (by push_cast; omega)
    push_cast at this
    rw [this]
    congr 2 <;> omega
theorem sums_eq {k : Nat} {ls : List Ly} (hr : Rights ls) (hl : ls.length ≤ 128) (hk : ls.length < k) : pack_sums.f k ls = some (water ls, cold ls) := by
  unfold pack_sums.f
  have := sums_loop ls hr hl ls.length k 0 0 0 (by omega) hk (by omega) (by omega) (by omega) (by omega)
  simpa using this
theorem check_loop (ls : List Ly) (hl : ls.length ≤ 64) : ∀ (d k i : Nat), i + d = ls.length → d + 65 < k → Rights (ls.take i) →
    pack_Check.l0 k ls (ls.length : Int) (i : Int) ls = some (checkE ls) := by
  intro d
  induction d with
  | zero =>
    intro k i hi hk h
    obtain ⟨k, rfl⟩ : ∃ j, k = j + 1 := ⟨k - 1, by omega⟩
    rw [List.take_of_length_le (by omega)] at h
    unfold pack_Check.l0
    rw [if_neg (by omega), sums_eq h (by omega) (by omega)]
    simp only [Option.bind_some, checkE]
    by_cases hw : water ls > 65536
    · rw [if_pos hw, if_neg (fun hv : Valid ls => by have := hv.2.2.1; omega)]
    · rw [if_neg hw]
      by_cases hc : cold ls > 65536
      · rw [if_pos hc, if_neg (fun hv : Valid ls => by have := hv.2.2.2; omega)]
      · rw [if_neg hc, if_pos (show Valid ls from ⟨hl, h, by omega, by omega⟩)]
  | succ d ih =>
    intro k i hi hk h
    obtain ⟨k, rfl⟩ : ∃ j, k = j + 1 := ⟨k - 1, by omega⟩
    unfold pack_Check.l0
    rw [if_pos (by omega), if_pos (by omega), if_pos (by omega), right_eq]
    simp only [Option.bind_some, decide_eq_true_eq]
    have hd := rd_drop (show i < ls.length by omega)
    by_cases hr : Right (rd_T48 ls (i : Int))
    · rw [if_pos (by exact hr), wr ((i : Int) + 1) (by omega)]
      have := ih k (i + 1) (by omega) (by omega) (by
        intro x hx
        rw [List.take_add_one] at hx
        rcases List.mem_append.mp hx with hx | hx
        · exact h x hx
        · have e : ls[i]?.toList = [rd_T48 ls (i : Int)] := by
            simp [rd_T48, List.getD_eq_getElem?_getD, show i < ls.length by omega]
          rw [e] at hx
          rw [List.mem_singleton.mp hx]
          exact hr)
      push_cast at this
      exact this
    · rw [if_neg (by exact hr), checkE, if_neg]
      intro hv
      exact hr (hv.2.1 _ (by
        have : rd_T48 ls (i : Int) ∈ ls.drop i := by rw [hd]; exact List.mem_cons_self
        exact List.mem_of_mem_drop this))
theorem check_eq {k : Nat} (hk : 130 ≤ k) (ls : List Ly) : pack_Check.f k ls = some (checkE ls) := by
  unfold pack_Check.f
  by_cases h : (ls.length : Int) > 64
  · rw [if_pos h, checkE, if_neg (by rintro ⟨h1, _⟩; omega)]
  · rw [if_neg h]
    exact check_loop ls (by omega) ls.length k 0 (by omega) (by omega) (by intro x hx; simp at hx)
theorem checkE_zero {ls : List Ly} : checkE ls = 0 ↔ Valid ls := by
  unfold checkE
  split <;> simp_all
theorem checkE_pos {ls : List Ly} (h : Valid ls) : checkE ls = 0 := checkE_zero.2 h
theorem checkE_neg {ls : List Ly} (h : ¬ Valid ls) : checkE ls = 20 := if_neg h
instance : DecidableEq Ly := fun a b => decidable_of_iff (a.f0 = b.f0 ∧ a.f1 = b.f1 ∧ a.f2 = b.f2) ⟨fun h => Ly.ext' h.1 h.2.1 h.2.2, fun h => by rw [h]; exact ⟨rfl, rfl, rfl⟩⟩
theorem same_loop (xs ys : List Ly) (hl : xs.length = ys.length) (h64 : xs.length ≤ 4096) : ∀ (d k i : Nat), i + d = xs.length → d < k → xs.take i = ys.take i →
    snowlineref02_Same.l0 k (i : Int) xs ys = some (decide (xs = ys)) := by
  intro d
  induction d with
  | zero =>
    intro k i hi hk h
    obtain ⟨k, rfl⟩ : ∃ j, k = j + 1 := ⟨k - 1, by omega⟩
    rw [List.take_of_length_le (by omega), List.take_of_length_le (by omega)] at h
    unfold snowlineref02_Same.l0
    rw [if_neg (by omega)]
    exact some_true h
  | succ d ih =>
    intro k i hi hk h
    obtain ⟨k, rfl⟩ : ∃ j, k = j + 1 := ⟨k - 1, by omega⟩
    unfold snowlineref02_Same.l0
    rw [if_pos (by omega), if_pos (by omega), if_pos (by omega)]
    have hx := rd_drop (show i < xs.length by omega)
    have hy := rd_drop (show i < ys.length by omega)
    by_cases hr : rd_T48 xs (i : Int) = rd_T48 ys (i : Int)
    · rw [hr]
      simp only [BEq.rfl, Bool.not_true, Bool.or_self]
      rw [if_neg (by simp), wr ((i : Int) + 1) (by omega)]
      have := ih k (i + 1) (by omega) (by omega) (by
        have e : ∀ (zs : List Ly), i < zs.length → zs[i]?.toList = [rd_T48 zs (i : Int)] := by
          intro zs hz
          simp [rd_T48, List.getD_eq_getElem?_getD, hz]
        rw [List.take_add_one, List.take_add_one, h, e xs (by omega), e ys (by omega), hr])
      push_cast at this
      exact this
    · rw [if_pos]
      · refine some_false ?_
        rintro rfl
        exact hr rfl
      · by_cases h0 : (rd_T48 xs (i : Int)).f0 = (rd_T48 ys (i : Int)).f0 <;> by_cases h1 : (rd_T48 xs (i : Int)).f1 = (rd_T48 ys (i : Int)).f1 <;> by_cases h2 : (rd_T48 xs (i : Int)).f2 = (rd_T48 ys (i : Int)).f2 <;> simp [h0, h1, h2]
        exact hr (Ly.ext' h0 h1 h2)
theorem same_eq {k : Nat} {xs ys : List Ly} (h64 : xs.length ≤ 4096) (hk : xs.length < k) : snowlineref02_Same.f k xs ys = some (decide (xs = ys)) := by
  unfold snowlineref02_Same.f
  by_cases h : (xs.length : Int) = (ys.length : Int)
  · rw [if_pos h]
    exact same_loop xs ys (by omega) h64 xs.length k 0 (by omega) hk rfl
  · rw [if_neg h]
    refine some_false ?_
    rintro rfl
    exact h rfl
end Go.Proofs.YtpldcikmlpegpaaDoor.Plain
end
section
namespace Go.Proofs.YtpldcikmlpegpaaDoor.Plain
open Go.RowKit Go.Proofs.YtpldcikmlpegpaaDoor.PB Go.Proofs.YtpldcikmlpegpaaDoor.Col Go.Proofs.YtpldcikmlpegpaaDoorW.PrintWords Go.Proofs.YtpldcikmlpegpaaDoorW.PrintMore
theorem mn_min (a b : Int) : mn a b = min a b := by unfold mn; split <;> omega
def St (c : C) (n : Nat) (L : List Ly) (o t : Int) : Prop :=
  c.n = n ∧ c.out = o ∧ c.taken = t ∧ ∃ pre post, c.at_ = pre ++ L ++ post ∧ pre.length = c.top ∧ c.top + L.length = n
theorem St.live {c : C} {n : Nat} {L : List Ly} {o t : Int} (h : St c n L o t) : c.live = L := by
  obtain ⟨h1, h2, h3, pre, post, h4, h5, h6⟩ := h
  unfold C.live
  rw [h4, ← h5, List.append_assoc, List.drop_left, show c.n - pre.length = L.length by omega, List.take_left]
end Go.Proofs.YtpldcikmlpegpaaDoor.Plain
end
section
namespace Go.Proofs.YtpldcikmlpegpaaDoor.Plain
open Go.RowKit Go.Proofs.YtpldcikmlpegpaaDoor.PB Go.Proofs.YtpldcikmlpegpaaDoor.Col Go.Proofs.YtpldcikmlpegpaaDoorW.PrintWords Go.Proofs.YtpldcikmlpegpaaDoorW.PrintMore
def StepOk (k m cd : Int) : Prop := (1 ≤ k ∧ k ≤ 6) ∧ (0 ≤ m ∧ m ≤ 65536) ∧ (0 ≤ cd ∧ cd ≤ if k = 1 then 65536 else 0)
instance (k m cd : Int) : Decidable (StepOk k m cd) := inferInstanceAs (Decidable (_ ∧ _))
end Go.Proofs.YtpldcikmlpegpaaDoor.Plain
end
section
namespace Go.Proofs.YtpldcikmlpegpaaDoor.Plain
open Go.RowKit Go.Proofs.YtpldcikmlpegpaaDoor.PB
set_option maxRecDepth 100000 in
theorem sane_eq200 : snowlinelaw02_sane.f 200 = some true := by kernel_rfl
end Go.Proofs.YtpldcikmlpegpaaDoor.Plain
end
section
namespace Go.Proofs.YtpldcikmlpegpaaDoor.Plain
open Go.RowKit Go.Proofs.YtpldcikmlpegpaaDoor.PB Go.Proofs.YtpldcikmlpegpaaDoor.Col Go.Proofs.YtpldcikmlpegpaaDoorW.PrintWords Go.Proofs.YtpldcikmlpegpaaDoorW.PrintMore
theorem sane_eq : ∀ (k : Nat), 200 ≤ k → snowlinelaw02_sane.f k = some true := by
  intro k hk
  induction k with
  | zero => omega
  | succ k ih =>
    by_cases h : k + 1 = 200
    · rw [h]; exact sane_eq200
    · exact snowlinelaw02_sane.mono k _ (ih (by omega))
theorem water_eq {k : Nat} (hk : 130 ≤ k) (L : List Ly) : pack_Water.f k L = some (if Valid L then (water L, 0) else (0, 20)) := by
  unfold pack_Water.f
  rw [check_eq hk]
  simp only [Option.bind_some]
  by_cases hv : Valid L
  · rw [checkE_pos hv, if_pos rfl, if_pos hv, sums_eq hv.2.1 (by have := hv.1; omega) (by have := hv.1; omega)]
    rfl
  · rw [checkE_neg hv, if_neg (by omega), if_neg hv]
def room (l : Ly) : Int := l.f2 - l.f1 + (l.f0 + l.f2) / 20
def ready : List Ly → Int
  | [] => 0
  | l :: ls => room l + ready ls
theorem room_bound {l : Ly} (h : Fit l) : 0 ≤ room l ∧ room l ≤ 2 * l.f2 + l.f0 := by
  obtain ⟨a, b, c, d⟩ := h
  unfold room
  omega
theorem ready_loop (ls : List Ly) (hr : Rights ls) (hl : ls.length ≤ 64) : ∀ (d k i : Nat) (s : Int), i + d = ls.length → d < k → 0 ≤ s → s ≤ 262144 * (i : Int) →
    pack_Ready.l0 k s ls (ls.length : Int) (i : Int) = some (s + ready (ls.drop i), 0) := by
  intro d
  induction d with
  | zero =>
    intro k i s hi hk _ _
    obtain ⟨k, rfl⟩ : ∃ j, k = j + 1 := ⟨k - 1, by omega⟩
    unfold pack_Ready.l0
    rw [if_neg (by omega), List.drop_eq_nil_of_le (by omega)]
    simp [ready]
  | succ d ih =>
    intro k i s hi hk h0 h1
    obtain ⟨k, rfl⟩ : ∃ j, k = j + 1 := ⟨k - 1, by omega⟩
    have hm : Right (rd_T48 ls (i : Int)) := hr _ (by
      have : rd_T48 ls (i : Int) ∈ ls.drop i := by rw [rd_drop (by omega)]; exact List.mem_cons_self
      exact List.mem_of_mem_drop this)
    have hrb := room_bound hm.live.1
    obtain ⟨a, b, cc, dd, e, f, g⟩ := hm
    unfold pack_Ready.l0
    rw [if_pos (by omega), if_pos (by omega), if_pos (by omega)]
    rw [rd_drop (show i < ls.length by omega)]
    simp only [ready, pack_hold.f, Option.bind_some]
    have h9 : 0 ≤ (rd_T48 ls (i : Int)).f0 + (rd_T48 ls (i : Int)).f2 := by omega
    rw [wr ((rd_T48 ls (i : Int)).f0 + _) (by omega), Int.tdiv_eq_ediv_of_nonneg h9, wr (((rd_T48 ls (i : Int)).f0 + _) / 20) (by omega), wr ((rd_T48 ls (i : Int)).f2 - _) (by omega), wr (s + _) (by omega), wr (s + _ + _) (by omega), wr ((i : Int) + 1) (by omega)]
    have := ih k (i + 1) (s + ((rd_T48 ls (i : Int)).f2 - (rd_T48 ls (i : Int)).f1) + ((rd_T48 ls (i : Int)).f0 + (rd_T48 ls (i : Int)).f2) / 20) (by omega) (by omega) (by unfold room at hrb; omega) (by unfold room at hrb; push_cast; omega)
    push_cast at this
    rw [this]
    unfold room
    congr 2
    omega
theorem ready_eq {k : Nat} (hk : 130 ≤ k) (L : List Ly) : pack_Ready.f k L = some (if Valid L then (ready L, 0) else (0, 20)) := by
  unfold pack_Ready.f
  rw [check_eq hk]
  simp only [Option.bind_some]
  by_cases hv : Valid L
  · rw [checkE_pos hv, if_pos rfl, if_pos hv]
    have := ready_loop L hv.2.1 hv.1 L.length k 0 0 (by omega) (by have := hv.1; omega) (by omega) (by omega)
    simpa using this
  · rw [checkE_neg hv, if_neg (by omega), if_neg hv]
end Go.Proofs.YtpldcikmlpegpaaDoor.Plain
end
section
namespace Go.Proofs.YtpldcikmlpegpaaDoor.Plain
open Go.RowKit Go.Proofs.YtpldcikmlpegpaaDoor.PB Go.Proofs.YtpldcikmlpegpaaDoorW.PrintWords Go.Proofs.YtpldcikmlpegpaaDoorW.PrintMore
def net : List Ly → Int
  | [] => 0
  | l :: ls => l.f2 - l.f1 + net ls
theorem net_app (xs ys : List Ly) : net (xs ++ ys) = net xs + net ys := by
  induction xs with
  | nil => simp [net]
  | cons x xs ih => simp only [List.cons_append, net, ih]; omega
theorem net_bound : ∀ (xs : List Ly), Rights xs → -262144 * (xs.length : Int) ≤ net xs ∧ net xs ≤ 262144 * (xs.length : Int)
  | [], _ => by simp [net]
  | x :: xs, hr => by
    have h2 := net_bound xs hr.tail
    obtain ⟨x1, x2, x3, x4, x5, x6, x7⟩ := hr.head
    simp only [net, List.length_cons]
    push_cast
    omega
theorem join_right {a b : Ly} (ha : Right a) (hb : Right b) (hw : a.f0 + a.f1 + b.f0 + b.f1 ≤ 65536) (hc : a.f2 + b.f2 ≤ 65536) :
    Right (joinW a b) ∧ (joinW a b).f0 + (joinW a b).f1 = a.f0 + a.f1 + b.f0 + b.f1 ∧ (joinW a b).f2 - (joinW a b).f1 = a.f2 - a.f1 + (b.f2 - b.f1) ∧ (joinW a b).f2 ≤ a.f2 + b.f2 := by
  obtain ⟨a1, a2, a3, a4, a5, a6, a7⟩ := ha
  obtain ⟨b1, b2, b3, b4, b5, b6, b7⟩ := hb
  unfold joinW Right
  simp only [mn_min]
  rw [wr (a.f0 + b.f0) (by omega), wr (a.f1 + b.f1) (by omega), wr (a.f2 + b.f2) (by omega), wr (a.f0 + b.f0 + _) (by omega), wr (a.f1 + b.f1 - _) (by omega), wr (a.f2 + b.f2 - _) (by omega)]
  omega
theorem split_at (xs : List Ly) (a : Nat) (h : a + 1 < xs.length) : xs = xs.take a ++ xs.getD a z48 :: xs.getD (a + 1) z48 :: xs.drop (a + 2) := by
  have e1 : xs.drop a = xs.getD a z48 :: xs.drop (a + 1) := by
    rw [List.drop_eq_getElem_cons (show a < xs.length by omega)]
    simp [List.getD_eq_getElem?_getD, show a < xs.length by omega]
  have e2 : xs.drop (a + 1) = xs.getD (a + 1) z48 :: xs.drop (a + 2) := by
    rw [List.drop_eq_getElem_cons h]
    simp [List.getD_eq_getElem?_getD, h]
  rw [← e2, ← e1, List.take_append_drop]
theorem once_form (xs : List Ly) (h : 2 ≤ xs.length) : ∃ a, a + 1 < xs.length ∧ joinOnce xs = xs.take a ++ joinW (xs.getD a z48) (xs.getD (a + 1) z48) :: xs.drop (a + 2) := by
  refine ⟨leastW xs (xs.length - 1) 0 0, leastW_lt xs _ 0 0 (by omega) (by omega), ?_⟩
  unfold joinOnce
  generalize ha : leastW xs (xs.length - 1) 0 0 = a
  have hlt : a + 1 < xs.length := ha ▸ leastW_lt xs _ 0 0 (by omega) (by omega)
  simp only []
  rw [List.take_add_one, List.take_set, List.drop_set_of_lt (by omega)]
  have e1 : (xs.take a).set a (joinW (xs.getD a z48) (xs.getD (a + 1) z48)) = xs.take a := List.set_eq_of_length_le (by simp; omega)
  rw [e1]
  simp [show a < xs.length by omega]
theorem once_keeps {xs : List Ly} (hv : Valid xs) (h : 2 ≤ xs.length) : Valid (joinOnce xs) ∧ (joinOnce xs).length + 1 = xs.length ∧ water (joinOnce xs) = water xs ∧ net (joinOnce xs) = net xs := by
  obtain ⟨a, ha, e⟩ := once_form xs h
  have hs := split_at xs a ha
  obtain ⟨v1, v2, v3, v4⟩ := id hv
  generalize hx : xs.getD a z48 = x at e hs
  generalize hy : xs.getD (a + 1) z48 = y at e hs
  generalize hp : xs.take a = p at e hs
  generalize hq : xs.drop (a + 2) = q at e hs
  have rp : Rights p := fun z hz => v2 z (by rw [hs]; simp [hz])
  have rq : Rights q := fun z hz => v2 z (by rw [hs]; simp [hz])
  have rx : Right x := v2 x (by rw [hs]; simp)
  have ry : Right y := v2 y (by rw [hs]; simp)
  have wp := water_nonneg rp.live.fits
  have wq := water_nonneg rq.live.fits
  have cp := cold_nonneg rp.live.fits
  have cq := cold_nonneg rq.live.fits
  have e1 : water xs = water p + (x.f0 + x.f1 + (y.f0 + y.f1 + water q)) := by rw [hs, water_app]; rfl
  have e2 : cold xs = cold p + (x.f2 + (y.f2 + cold q)) := by rw [hs, cold_app]; rfl
  have e3 : net xs = net p + (x.f2 - x.f1 + (y.f2 - y.f1 + net q)) := by rw [hs, net_app]; rfl
  have e4 : xs.length = p.length + (q.length + 2) := by rw [hs]; simp
  obtain ⟨j1, j2, j3, j4⟩ := join_right rx ry (by omega) (by omega)
  have f1 : water (joinOnce xs) = water p + ((joinW x y).f0 + (joinW x y).f1 + water q) := by rw [e, water_app]; rfl
  have f2 : cold (joinOnce xs) = cold p + ((joinW x y).f2 + cold q) := by rw [e, cold_app]; rfl
  have f3 : net (joinOnce xs) = net p + ((joinW x y).f2 - (joinW x y).f1 + net q) := by rw [e, net_app]; rfl
  have f4 : (joinOnce xs).length = p.length + (q.length + 1) := by rw [e]; simp
  refine ⟨⟨by omega, ?_, by omega, by omega⟩, by omega, by omega, by omega⟩
  intro z hz
  rw [e] at hz
  rcases List.mem_append.mp hz with hz | hz
  · exact rp z hz
  · rcases List.mem_cons.mp hz with rfl | hz
    · exact j1
    · exact rq z hz
def joinTo (n : Int) (xs : List Ly) : List Ly := joinsW n xs.length xs
theorem joinTo_few {n : Int} {xs : List Ly} (h : ¬ n < (xs.length : Int)) : joinTo n xs = xs := by
  unfold joinTo
  cases hx : xs.length with
  | zero => rfl
  | succ k =>
    simp only [joinsW]
    rw [if_neg h]
theorem joinTo_more {n : Int} {xs : List Ly} (hv : Valid xs) (hn : 1 ≤ n) (h : n < (xs.length : Int)) : joinTo n xs = joinTo n (joinOnce xs) := by
  have hk := once_keeps hv (by omega)
  unfold joinTo
  rw [← hk.2.1]
  simp only [joinsW]
  rw [if_pos h]
theorem joinTo_keeps {n : Int} (hn : 1 ≤ n) : ∀ (k : Nat) {xs : List Ly}, xs.length = k → Valid xs → Valid (joinTo n xs) ∧ water (joinTo n xs) = water xs ∧ net (joinTo n xs) = net xs ∧ (((joinTo n xs).length : Nat) : Int) = min n (xs.length : Int) := by
  intro k
  induction k with
  | zero =>
    intro xs hx hv
    rw [joinTo_few (by omega)]
    exact ⟨hv, rfl, rfl, by omega⟩
  | succ k ih =>
    intro xs hx hv
    by_cases h : n < (xs.length : Int)
    · obtain ⟨h1, h2, h3, h4⟩ := once_keeps hv (by omega)
      obtain ⟨i1, i2, i3, i4⟩ := ih (xs := joinOnce xs) (by omega) h1
      rw [joinTo_more hv hn h]
      exact ⟨i1, by omega, by omega, by omega⟩
    · rw [joinTo_few h]
      exact ⟨hv, rfl, rfl, by omega⟩
theorem joinTo_twice {n m : Int} (hm : 1 ≤ m) (hmn : m ≤ n) : ∀ (k : Nat) {xs : List Ly}, xs.length = k → Valid xs → joinTo m (joinTo n xs) = joinTo m xs := by
  intro k
  induction k with
  | zero =>
    intro xs hx hv
    rw [joinTo_few (n := n) (by omega)]
  | succ k ih =>
    intro xs hx hv
    by_cases h : n < (xs.length : Int)
    · obtain ⟨h1, h2, h3, h4⟩ := once_keeps hv (by omega)
      rw [joinTo_more hv (by omega) h, ih (xs := joinOnce xs) (by omega) h1, ← joinTo_more hv hm (by omega)]
    · rw [joinTo_few h]
def joinedP (l : List Ly) (n : Int) : List Ly × Int := if Valid l then (if 1 ≤ n ∧ n ≤ 64 then (joinTo n l, 0) else ([], 1)) else ([], 20)
theorem joined_eq (l : List Ly) (n : Int) : pack_Joined.f l n = some (joinedP l n) := by
  unfold pack_Joined.f joinedP
  rw [check_eq (by omega)]
  simp only [Option.bind_some]
  by_cases hv : Valid l
  · rw [checkE_pos hv, if_pos rfl, if_pos hv]
    by_cases hn : 1 ≤ n ∧ n ≤ 64
    · rw [if_pos hn, if_pos hn]
      rfl
    · rw [if_neg hn, if_neg hn]
  · rw [checkE_neg hv, if_neg (by omega), if_neg hv]
end Go.Proofs.YtpldcikmlpegpaaDoor.Plain
end
section
namespace Go.Proofs.YtpldcikmlpegpaaDoor.PurePackJoined
open Go.RowKit Go.Proofs.YtpldcikmlpegpaaDoor.PB Go.Proofs.YtpldcikmlpegpaaDoor.Open Go.Proofs.YtpldcikmlpegpaaDoor.Plain
theorem at_right {ls : List Ly} (h : Rights ls) {i : Nat} (hi : i < ls.length) : Right (rd_T48 ls (i : Int)) := h _ (by
  have : rd_T48 ls (i : Int) ∈ ls.drop i := by rw [rd_drop hi]; exact List.mem_cons_self
  exact List.mem_of_mem_drop this)
theorem back (n m : Int) (l q : List Ly) (hq : Valid q) : ∀ (d k i : Nat) (s : Int), i + d = q.length → d < k → -262144 * (d : Int) ≤ s → s ≤ 262144 * (d : Int) → s = net (q.drop i) →
    (∀ k, 200 ≤ k → (if m > n then some true else ((pack_Joined.f q m).bind fun b => ((pack_Joined.f l m).bind fun c => (if b.2 = c.2 then ((snowlineref02_Same.f k b.1 c.1).bind fun t => (some t)) else (some false))))) = some true) → 300 ≤ k - d →
    snowlinelaw02_PackJoined.l1 k n m s (i : Int) l q = some true := by
  have h64 := hq.1
  intro d
  induction d with
  | zero =>
    intro k i s hi hk h0 h1 hs hend hk2
    obtain ⟨k, rfl⟩ : ∃ j, k = j + 1 := ⟨k - 1, by omega⟩
    simp only [snowlinelaw02_PackJoined.l1]
    rw [if_neg (by omega), if_pos (by omega)]
    exact hend k (by omega)
  | succ d ih =>
    intro k i s hi hk h0 h1 hs hend hk2
    obtain ⟨k, rfl⟩ : ∃ j, k = j + 1 := ⟨k - 1, by omega⟩
    obtain ⟨a, b, c, dd, e, f, g⟩ := at_right hq.2.1 (show i < q.length by omega)
    rw [rd_drop (show i < q.length by omega)] at hs
    simp only [net] at hs
    have hn := net_bound (q.drop (i + 1)) (fun x hx => hq.2.1 x (List.mem_of_mem_drop hx))
    have hdl : (q.drop (i + 1)).length = d := by simp; omega
    rw [hdl] at hn
    simp only [snowlinelaw02_PackJoined.l1]
    rw [if_pos (by omega), if_pos (by omega), wr (s - _) (by omega), wr (s - _ + _) (by omega), wr ((i : Int) + 1) (by omega)]
    have := ih k (i + 1) (s - (rd_T48 q (i : Int)).f2 + (rd_T48 q (i : Int)).f1) (by omega) (by omega) (by omega) (by omega) (by omega) hend (by omega)
    push_cast at this
    exact this
theorem forth (n m : Int) (l q : List Ly) (hl : Valid l) (r : Option Bool) : ∀ (d k i : Nat) (s : Int), i + d = l.length → d < k → -262144 * (i : Int) ≤ s → s ≤ 262144 * (i : Int) →
    (∀ k2, k - d - 1 = k2 → snowlinelaw02_PackJoined.l1 k2 n m (s + net (l.drop i)) 0 l q = r) → snowlinelaw02_PackJoined.l0 k n m s (i : Int) l q = r := by
  have h64 := hl.1
  intro d
  induction d with
  | zero =>
    intro k i s hi hk h0 h1 hend
    obtain ⟨k, rfl⟩ : ∃ j, k = j + 1 := ⟨k - 1, by omega⟩
    have := hend k (by omega)
    rw [List.drop_eq_nil_of_le (by omega)] at this
    simp only [net, Int.add_zero] at this
    simp only [snowlinelaw02_PackJoined.l0]
    rw [if_neg (by omega)]
    exact this
  | succ d ih =>
    intro k i s hi hk h0 h1 hend
    obtain ⟨k, rfl⟩ : ∃ j, k = j + 1 := ⟨k - 1, by omega⟩
    obtain ⟨a, b, c, dd, e, f, g⟩ := at_right hl.2.1 (show i < l.length by omega)
    rw [rd_drop (show i < l.length by omega)] at hend
    simp only [net] at hend
    simp only [snowlinelaw02_PackJoined.l0]
    rw [if_pos (by omega), if_pos (by omega), wr (s + _) (by omega), wr (s + _ - _) (by omega), wr ((i : Int) + 1) (by omega)]
    have := ih k (i + 1) (s + (rd_T48 l (i : Int)).f2 - (rd_T48 l (i : Int)).f1) (by omega) (by omega) (by push_cast; omega) (by push_cast; omega) (fun k2 h2 => by
      rw [← hend k2 (by omega)]
      congr 1
      omega)
    push_cast at this
    exact this
theorem pure (l : List Ly) (n m : Int) (_ : ∀ x ∈ l, LyI x) (_ : i64 n) (_ : i64 m) : ∃ k, snowlinelaw02_PackJoined.f k l n m = some true := by
  refine ⟨601, ?_⟩
  unfold snowlinelaw02_PackJoined.f
  rw [sane_eq 601 (by omega), joined_eq]
  simp only [Option.bind_some, if_true]
  by_cases hv : Valid l
  · by_cases hn : 1 ≤ n ∧ n ≤ 64
    · have e : joinedP l n = (joinTo n l, 0) := by unfold joinedP; rw [if_pos hv, if_pos hn]
      obtain ⟨k1, k2, k3, k4⟩ := joinTo_keeps hn.1 l.length rfl hv
      rw [e]
      dsimp only
      rw [if_pos rfl, water_eq (by omega), water_eq (by omega), if_pos hv, if_pos k1]
      simp only [Option.bind_some, if_true]
      rw [if_pos k2.symm, mn_min, show ((((joinTo n l).length : Nat) : Int) != min n (l.length : Int)) = false by simp [k4]]
      simp only [snowlinelaw02_PackJoined.j0]
      rw [if_neg (by simp)]
      have h64 := hv.1
      have q64 := k1.1
      refine forth n m l (joinTo n l) hv _ l.length 600 0 0 (by omega) (by omega) (by omega) (by omega) (fun kk hk => ?_)
      have hnb : net l = net ((joinTo n l).drop 0) := by rw [List.drop_zero]; exact k3.symm
      have hbq := net_bound (joinTo n l) k1.2.1
      rw [List.drop_zero] at hnb
      refine back n m l (joinTo n l) k1 (joinTo n l).length kk 0 _ (by omega) (by omega) (by rw [List.drop_zero]; omega) (by rw [List.drop_zero]; omega) (by simp [hnb]) (fun k hk2 => ?_) (by omega)
      by_cases hmn : m > n
      · rw [if_pos hmn]
      · rw [if_neg hmn, joined_eq, joined_eq]
        simp only [Option.bind_some]
        unfold joinedP
        rw [if_pos k1, if_pos hv]
        by_cases hm : 1 ≤ m ∧ m ≤ 64
        · rw [if_pos hm, if_pos hm]
          dsimp only
          have ht := joinTo_twice hm.1 (show m ≤ n by omega) l.length rfl hv
          obtain ⟨m1, _, _, _⟩ := joinTo_keeps hm.1 l.length rfl hv
          have ml := m1.1
          rw [if_pos rfl, ht, same_eq (by omega) (by omega), decide_eq_true rfl]
          rfl
        · rw [if_neg hm, if_neg hm]
          dsimp only
          rw [if_pos rfl, same_eq (by simp) (by simp; omega), decide_eq_true rfl]
          rfl
    · have e : joinedP l n = ([], 1) := by unfold joinedP; rw [if_pos hv, if_neg hn]
      rw [e]
      rfl
  · have e : joinedP l n = ([], 20) := by unfold joinedP; rw [if_neg hv]
    rw [e]
    rfl
end Go.Proofs.YtpldcikmlpegpaaDoor.PurePackJoined
end
section
namespace Go.Proofs.YtpldcikmlpegpaaDoor.packJoined
open Go.ChangeShapes Go.WideShapes Go.ChangeAt Go.RowKit Go.Proofs.YtpldcikmlpegpaaDoor.Open Go.Proofs.YtpldcikmlpegpaaDoor.PB
set_option linter.unusedVariables false
set_option maxRecDepth 100000 in
theorem lifted (os : Os) (started : os.Started) (H : Type) (enc : TypeId × Value → H) :
    ReturnsInHanded {} Tryd.checked os 8 .any (fun w args => (Rows.packJoinedSpec.pre enc Tryd.prog Tryd.f8 [] false w args ∧ laidMetH Tryd.prog laid3 w) ∧ sizedMet enc Tryd.prog Tryd.f8 (OpenSpec.ofChange Rows.packJoinedSpec) false w args)
      (Rows.packJoinedSpec.post enc Tryd.prog Tryd.f8 false true false false) := by
  refine returnsInHanded_of_change_and (C := Tryd.checked) (X := fun w _ => laidMetH Tryd.prog laid3 w) (fun _ _ _ hh h => h.of_heap hh) own started (by kernel_rfl) Tryd.func8
    (ChangeSpec.witness_shaped (enc := enc) (C := Tryd.checked) (os := os) (X := fun w _ => laidMetH Tryd.prog laid3 w) false (World.doorLaid Tryd.prog 400 os) #[.agg #[.slice none 0 0], .int .i64 0, .int .i64 0] 8 rfl (World.shaped_of_RefB (by kernel_rfl) (by kernel_rfl)) (by kernel_rfl) (by kernel_rfl) (by kernel_rfl) (door_met os _)) ?_
  intro W base args ds gs before hval0 hW _ _ hL _
  have hval : ∀ (j : Nat) t v, Tryd.f8.params[j]? = some t → args[j]? = some v → Value.okWide Tryd.prog W .any base t v := hval0
  have hW' := hW
  obtain ⟨p, q, hA0, hV, rfl, hfz, hnd⟩ := hW
  have hA : DataW.TrodAll enc Tryd.prog W 0 (fun _ => true) true Tryd.f8.params.toList args.toList ds p := hA0
  rw [Tryd.params8] at hA hval
  obtain ⟨v0, vs0, d0, ds0, p0, q0, hargs, rfl, rfl, h0, r0⟩ := trodAll_cons hA
  obtain ⟨v1, vs1, d1, ds1, p1, q1, rfl, rfl, rfl, h1, r1⟩ := trodAll_cons r0
  obtain ⟨v2, vs2, d2, ds2, p2, q2, rfl, rfl, rfl, h2, r2⟩ := trodAll_cons r1
  obtain ⟨rfl, rfl, rfl⟩ := trodAll_nil r2
  obtain rfl : args = #[v0, v1, v2] := by cases args; simp_all
  obtain ⟨rfl, rfl⟩ := trodVars_none hV
  have k0 := h0
  have lt0 : ∀ x ∈ p0, x.block < W.heap.size := by obtain ⟨m, hm⟩ := k0; exact DataW.trod_lt m _ _ _ hm
  obtain ⟨A0, c0, l0, rfl, hl0, hC0, hi0⟩ := open_pack (hval 0 24 v0 rfl rfl) h0
  have k1 := h1
  have lt1 : ∀ x ∈ p1, x.block < W.heap.size := by obtain ⟨m, hm⟩ := k1; exact DataW.trod_lt m _ _ _ hm
  obtain ⟨a1, rfl, _, _, w1⟩ := open_int Tryd.underlying3 (hval 1 3 v1 rfl rfl) h1
  have k2 := h2
  have lt2 : ∀ x ∈ p2, x.block < W.heap.size := by obtain ⟨m, hm⟩ := k2; exact DataW.trod_lt m _ _ _ hm
  obtain ⟨a2, rfl, _, _, w2⟩ := open_int Tryd.underlying3 (hval 2 3 v2 rfl rfl) h2
  clear hA0 hval0
  obtain ⟨k, h⟩ := PurePackJoined.pure l0 a1 a2 hi0 w1 w2
  refine (snowlinelaw02_PackJoined.calls k A0 c0 l0 a1 a2 true W hC0 hl0 (glob_of hL) h).mono ?_
  rintro e W' ⟨rfl, bel⟩
  exact ⟨_, rfl, _, _, _, [], _, [], hW', trodAll_mk1 (shut_bool Tryd.underlying4 _), (trodAll_cons_mk (Below.trod laidOut (by kernel_rfl) (of_decide_eq_true (by kernel_rfl)) k0 bel lt0) (trodAll_cons_mk (Below.trod laidOut (by kernel_rfl) (of_decide_eq_true (by kernel_rfl)) k1 bel lt1) (trodAll_cons_mk (Below.trod laidOut (by kernel_rfl) (of_decide_eq_true (by kernel_rfl)) k2 bel lt2) trodAll_mk0))), rfl, bel.frame _, fun h => by cases h⟩
theorem over : Rows.PackJoinedSaid :=
  OpenClaim.holds_of_wide 8 Tryd.f8 rfl rfl rfl rfl rfl rfl rfl ⟨rfl, rfl, rfl, rfl, rfl⟩ rfl rfl rfl rfl rfl (by kernel_rfl) Tryd.func8 (by kernel_rfl)
    (of_decide_eq_true (by kernel_rfl)) (by unfold Func.isWrapper; first | (rw [if_pos (by decide +kernel)]; kernel_rfl) | (rw [if_neg (by decide +kernel)]; exact ⟨rfl, rfl⟩))
    (fun os started H enc _ => lifted os started H enc)
theorem card_holds : Rows.PackJoinedCardSaid :=
  Claim7.holds_tied_plain_at .later [] [.data, .data, .data] true (true, "e4590a7662fcc404b2e76501190c3f3756a1f45f85c3a8ba53dbb8ae7a261990") false
    over (fun _ h => by cases h) (by kernel_rfl) (fun _ h => by cases h) packJoined_row_tie rfl ⟨rfl, rfl⟩ (by kernel_rfl) rfl
    (fun f fn hf hfn => by
      obtain rfl : f = 8 := Option.some.inj ((show Tryd.prog.funcNamed "snowline/snowlinelaw02.PackJoined" = some 8 by kernel_rfl).symm.trans hf) |>.symm
      obtain rfl : fn = Tryd.f8 := (Option.some.inj (Tryd.func8.symm.trans hfn)).symm
      exact ⟨by kernel_rfl, fun j t ht => by
        rw [Tryd.params8] at ht
        have hm : t ∈ [24, 3, 3] := by simpa using Array.mem_of_getElem? ht
        have hall : ([24, 3, 3].all fun u => !Tryd.prog.wantsStandIn u) = true := by kernel_rfl
        exact (show Tryd.prog.wantsStandIn t = false by simpa using List.all_eq_true.1 hall t hm)⟩)
    (by kernel_rfl)
end Go.Proofs.YtpldcikmlpegpaaDoor.packJoined
end
