/-
A part of the proof of this: snowlinelaw02.PackTexts is true (texts match the specification and are inverse), on the condition that the arguments hold together at most 1048576 values and letters (the second form, Upto).
-/
import Derived.Deep.RegionHeld3
import Derived.Lib.Join
import Derived.Lib.AtoiAllCases
import Derived.Deep.DeepCutAuto
import Derived.Outline
import Derived.Test.YtpldcikmlpegpaaGreatDoorPackTextsA1
import Derived.Test.YtpldcikmlpegpaaGreatDoorPackTextsA2
import Derived.Test.YtpldcikmlpegpaaGreatDoorPackTextsA3
section
namespace Go.Proofs.YtpldcikmlpegpaaGreatDoor.PB
open Go.RowKit Go.Proofs.YtpldcikmlpegpaaGreatDoorW.PrintWords Go.Proofs.YtpldcikmlpegpaaGreatDoorW.PrintLast Go.Proofs.YtpldcikmlpegpaaGreatDoorW.PrintMore
attribute [local go_sem] max2_int min2_int max_two min_two max_three min_three max_four min_four   -- for this text's walks alone
set_option linter.unusedVariables false
set_option linter.unusedSimpArgs false
def snowlineref02_CheckStep.j0 : Nat → Bool → Int → Int → Int → Option (Int)
  | 0, _, _, _, _ => none
  | k + 1, x12, x174000, x174001, x174002 => if x12 = true then (some 21) else (if x174000 = 1 then ((snowlineref02_within.f x174002 0 65536).bind fun t176 => (if t176 = true then (some 0) else (some 21))) else (if x174002 = 0 then (some 0) else (some 21)))
def snowlineref02_CheckStep.f (k : Nat) (a0_0 : Int) (a0_1 : Int) (a0_2 : Int) : Option (Int) := (snowlineref02_within.f a0_0 1 6).bind fun t174 => (if t174 = true then ((snowlineref02_within.f a0_1 0 65536).bind fun t175 => (snowlineref02_CheckStep.j0 k (!t175) a0_0 a0_1 a0_2)) else (snowlineref02_CheckStep.j0 k true a0_0 a0_1 a0_2))
set_option maxHeartbeats 8000000 in
set_option maxRecDepth 100000 in
theorem snowlineref02_CheckStep.calls (k : Nat) (a0_0 : Int) (a0_1 : Int) (a0_2 : Int) (r : Int) (w : World) (h : snowlineref02_CheckStep.f k a0_0 a0_1 a0_2 = some r) :
    Calls Tryz.prog 25 #[.agg #[.int .i64 a0_0, .int .i64 a0_1, .int .i64 a0_2]] w fun e w' => e = .returned (.int .i64 r) ∧ Below w.heap.size w w' := by
  have hu23 := Tryz.underlying23
  have HB := Aside0.mk (Below.refl w.heap.size w)
  have H : ((snowlineref02_within.f a0_0 1 6).bind fun t174 => (if t174 = true then ((snowlineref02_within.f a0_1 0 65536).bind fun t175 => (snowlineref02_CheckStep.j0 k (!t175) a0_0 a0_1 a0_2)) else (snowlineref02_CheckStep.j0 k true a0_0 a0_1 a0_2))) = some r := h
  clear h
  have HC2 := Aside0.mk H
  clear H
  go_enter Tryz.func25, Tryz.ntmps25
  go_upto_region 1 with (first | ((with_reducible refine gate_dst (N := 1) rfl ?_); refine box_event ?hg (N := 1) ?hd (cs := #[.int .i64 a0_0, .int .i64 a0_1, .int .i64 a0_2]) (t := 23) ?hr ?_; (case hd => rfl); (case hg => rfl); (case hr => first | (go_simp; done) | (go_simp; rfl)); intro gb173 hg w3 hbox hb; have n0_ := Aside0.mk (below_step (by repeat (first | (with_reducible first | exact HB.out | apply below_alloc | apply pw_below_drewN | apply below_drew1) | exact HB.out)) hb); have n1_ := Aside0.mk (hbox); have n2_ := Aside0.mk ((by rw [hg]; exact (below_size (by repeat (first | (with_reducible first | exact HB.out | apply below_alloc | apply pw_below_drewN | apply below_drew1) | exact HB.out))) : w.heap.size ≤ gb173)); have n3_ := Aside0.mk ((by rw [hg]; exact (below_size (by repeat (first | (with_reducible first | exact HB.out | apply below_alloc | apply pw_below_drewN | apply below_drew1) | exact HB.out))) : w.heap.size ≤ gb173)); clear HB; have HB := n0_; have BK173 := n1_; have GW173 := n2_; have GE173 := n3_; clear n0_ n1_ n2_ n3_; clear hb hbox hg))
  (try simp only [Act.put, List.setIfInBounds_toArray, List.set_cons_zero, List.set_cons_succ])
  go_cut [12] (fun v12 wc => ∃ (kq : Nat) (x12_1 : Bool), v12 = .bool x12_1 ∧ Aside0 (snowlineref02_CheckStep.j0 kq x12_1 a0_0 a0_1 a0_2 = some r) ∧ Aside0 (kq ≤ k) ∧ Aside0 (wc.heap[gb173]? = some (.cells #[.int .i64 a0_0, .int .i64 a0_1, .int .i64 a0_2] 23 (0, 0))) ∧ Aside0 (Below w.heap.size w wc))
  case first =>
    have H := HC2.out
    clear HC2
    replace H := Option.bind_eq_some_iff.mp H
    obtain ⟨t174, A40, H⟩ := H
    replace H : (if t174 = true then ((snowlineref02_within.f a0_1 0 65536).bind fun t175 => (snowlineref02_CheckStep.j0 k (!t175) a0_0 a0_1 a0_2)) else (snowlineref02_CheckStep.j0 k true a0_0 a0_1 a0_2)) = some r := H
    have A4 := Aside0.mk A40
    clear A40
    by_cases c5 : t174 = true
    · subst c5
      have H1 : ((snowlineref02_within.f a0_1 0 65536).bind fun t175 => (snowlineref02_CheckStep.j0 k (!t175) a0_0 a0_1 a0_2)) = some r := by rw [if_pos rfl] at H; exact H
      clear H
      have H := H1
      clear H1
      replace H := Option.bind_eq_some_iff.mp H
      obtain ⟨t175, A60, H⟩ := H
      replace H : (snowlineref02_CheckStep.j0 k (!t175) a0_0 a0_1 a0_2) = some r := H
      have A6 := Aside0.mk A60
      clear A60
      have H' := Aside0.mk H
      clear H
      have hcz7_0 : w3.cell? ⟨gb173, 0, none⟩ = some (.int .i64 a0_0) := (blk_cell BK173.out 0).trans rfl
      have hcz7_1 : w3.cell? ⟨gb173, 1, none⟩ = some (.int .i64 a0_1) := (blk_cell BK173.out 1).trans rfl
      have hcz7_2 : w3.cell? ⟨gb173, 2, none⟩ = some (.int .i64 a0_2) := (blk_cell BK173.out 2).trans rfl
      have hfz7_0 := blk_frozen BK173.out 0
      have hfz7_1 := blk_frozen BK173.out 1
      have hfz7_2 := blk_frozen BK173.out 2
      go_wp2_with (first | ((with_reducible refine gate_callee (f := 49) rfl ?_); refine goesL_ (some 5) rfl rfl Tryz.func49 (by kernel_rfl) rfl #[.int .i64 a0_0, .int .i64 1, .int .i64 6] rfl (by (try simp only [List.map_toArray, List.map_cons, List.map_nil]); first | done | rfl | (simp only [List.length_drop, List.length_take]; rfl)) ?_; (with_reducible refine (snowlineref02_within.calls a0_0 1 6 true _ A4.out).mono ?_); rintro e w' ⟨rfl, ⟨nd, rfl⟩⟩; refine ⟨_, rfl, ?_⟩) | (go_at_call 49; (with_reducible refine (snowlineref02_within.calls a0_1 0 65536 t175 _ A6.out).mono ?_); rintro e w' ⟨rfl, ⟨nd, rfl⟩⟩))
      go_meet
      case rel => exact ⟨_, (!t175), (by first | rfl | (simp; done) | (simp [*]; done)), H', ⟨by first | omega | exact Nat.le_refl _⟩, ⟨by (with_reducible repeat (first | refine blk_drewN ?_ _ | refine blk_drew ?_ | refine blk_alloc ?_ _)); exact BK173.out⟩, ⟨by repeat (first | (with_reducible first | exact HB.out | apply below_alloc | apply pw_below_drewN | apply below_drew1 | refine below_set ?_ GE173.out) | exact HB.out)⟩⟩
    · replace c5 := Bool.eq_false_iff.mpr c5
      subst c5
      have H1 : (snowlineref02_CheckStep.j0 k true a0_0 a0_1 a0_2) = some r := by rw [if_neg (show ¬ (false = true) by decide)] at H; exact H
      clear H
      have H := H1
      clear H1
      have H' := Aside0.mk H
      clear H
      have hcz8_0 : w3.cell? ⟨gb173, 0, none⟩ = some (.int .i64 a0_0) := (blk_cell BK173.out 0).trans rfl
      have hcz8_1 : w3.cell? ⟨gb173, 1, none⟩ = some (.int .i64 a0_1) := (blk_cell BK173.out 1).trans rfl
      have hcz8_2 : w3.cell? ⟨gb173, 2, none⟩ = some (.int .i64 a0_2) := (blk_cell BK173.out 2).trans rfl
      have hfz8_0 := blk_frozen BK173.out 0
      have hfz8_1 := blk_frozen BK173.out 1
      have hfz8_2 := blk_frozen BK173.out 2
      go_wp2_with (first | ((with_reducible refine gate_callee (f := 49) rfl ?_); refine goesL_ (some 5) rfl rfl Tryz.func49 (by kernel_rfl) rfl #[.int .i64 a0_0, .int .i64 1, .int .i64 6] rfl (by (try simp only [List.map_toArray, List.map_cons, List.map_nil]); first | done | rfl | (simp only [List.length_drop, List.length_take]; rfl)) ?_; (with_reducible refine (snowlineref02_within.calls a0_0 1 6 false _ A4.out).mono ?_); rintro e w' ⟨rfl, ⟨nd, rfl⟩⟩; refine ⟨_, rfl, ?_⟩))
      go_meet
      case rel => exact ⟨_, (true), (by first | rfl | (simp; done) | (simp [*]; done)), H', ⟨by first | omega | exact Nat.le_refl _⟩, ⟨by (with_reducible repeat (first | refine blk_drewN ?_ _ | refine blk_drew ?_ | refine blk_alloc ?_ _)); exact BK173.out⟩, ⟨by repeat (first | (with_reducible first | exact HB.out | apply below_alloc | apply pw_below_drewN | apply below_drew1 | refine below_set ?_ GE173.out) | exact HB.out)⟩⟩
  case rest =>
    clear HC2
    try clear c2
    try clear p2
    try clear c4
    try clear c5
    try clear hcz7_0
    try clear hcz7_1
    try clear hcz7_2
    try clear hcz8_0
    try clear hcz8_1
    try clear hcz8_2
    try clear hfz7_0
    try clear hfz7_1
    try clear hfz7_2
    try clear hfz8_0
    try clear hfz8_1
    try clear hfz8_2
    obtain ⟨kq, x12_1, rfl, HA, HJ1, BK173, HB⟩ := hcut
    cases kq with
    | zero => exact absurd HA.out (by simp [snowlineref02_CheckStep.j0])
    | succ kj1 =>
      have H := HA.out
      clear HA
      simp only [snowlineref02_CheckStep.j0] at H
      by_cases c9 : x12_1 = true
      · subst c9
        have H1 : (some 21) = some r := by rw [if_pos rfl] at H; exact H
        clear H
        have H := H1
        clear H1
        obtain rfl := Option.some.inj H
        go_wp2
        go_ret
        exact ⟨by first | rfl | (simp [errW_none, errW_some] <;> rfl) | (simp [*, errW_none, errW_some] <;> rfl), by repeat (first | (with_reducible first | exact HB.out | apply below_alloc | apply pw_below_drewN | apply below_drew1 | refine below_set ?_ GE173.out) | exact HB.out)⟩
      · replace c9 := Bool.eq_false_iff.mpr c9
        subst c9
        have H1 : (if a0_0 = 1 then ((snowlineref02_within.f a0_2 0 65536).bind fun t176 => (if t176 = true then (some 0) else (some 21))) else (if a0_2 = 0 then (some 0) else (some 21))) = some r := by rw [if_neg (show ¬ (false = true) by decide)] at H; exact H
        clear H
        have H := H1
        clear H1
        by_cases c10 : a0_0 = 1
        · rw [if_pos c10] at H
          have c10b0 : (a0_0 == 1) = true := beq_iff_eq.mpr c10
          have c10b1 : (a0_0 != 1) = false := bne_eq_false_iff_eq.mpr c10
          clear c10
          replace H := Option.bind_eq_some_iff.mp H
          obtain ⟨t176, A110, H⟩ := H
          replace H : (if t176 = true then (some 0) else (some 21)) = some r := H
          have A11 := Aside0.mk A110
          clear A110
          by_cases c12 : t176 = true
          · subst c12
            have H1 : (some 0) = some r := by rw [if_pos rfl] at H; exact H
            clear H
            have H := H1
            clear H1
            obtain rfl := Option.some.inj H
            have hcz13_0 : wc.cell? ⟨gb173, 0, none⟩ = some (.int .i64 a0_0) := (blk_cell BK173.out 0).trans rfl
            have hcz13_1 : wc.cell? ⟨gb173, 1, none⟩ = some (.int .i64 a0_1) := (blk_cell BK173.out 1).trans rfl
            have hcz13_2 : wc.cell? ⟨gb173, 2, none⟩ = some (.int .i64 a0_2) := (blk_cell BK173.out 2).trans rfl
            have hfz13_0 := blk_frozen BK173.out 0
            have hfz13_1 := blk_frozen BK173.out 1
            have hfz13_2 := blk_frozen BK173.out 2
            go_wp2_with (first | (go_at_call 49; (with_reducible refine (snowlineref02_within.calls a0_2 0 65536 true _ A11.out).mono ?_); rintro e w' ⟨rfl, ⟨nd, rfl⟩⟩))
            go_ret
            exact ⟨by first | rfl | (simp [errW_none, errW_some] <;> rfl) | (simp [*, errW_none, errW_some] <;> rfl), by repeat (first | (with_reducible first | exact HB.out | apply below_alloc | apply pw_below_drewN | apply below_drew1 | refine below_set ?_ GE173.out) | exact HB.out)⟩
          · replace c12 := Bool.eq_false_iff.mpr c12
            subst c12
            have H1 : (some 21) = some r := by rw [if_neg (show ¬ (false = true) by decide)] at H; exact H
            clear H
            have H := H1
            clear H1
            obtain rfl := Option.some.inj H
            have hcz14_0 : wc.cell? ⟨gb173, 0, none⟩ = some (.int .i64 a0_0) := (blk_cell BK173.out 0).trans rfl
            have hcz14_1 : wc.cell? ⟨gb173, 1, none⟩ = some (.int .i64 a0_1) := (blk_cell BK173.out 1).trans rfl
            have hcz14_2 : wc.cell? ⟨gb173, 2, none⟩ = some (.int .i64 a0_2) := (blk_cell BK173.out 2).trans rfl
            have hfz14_0 := blk_frozen BK173.out 0
            have hfz14_1 := blk_frozen BK173.out 1
            have hfz14_2 := blk_frozen BK173.out 2
            go_wp2_with (first | (go_at_call 49; (with_reducible refine (snowlineref02_within.calls a0_2 0 65536 false _ A11.out).mono ?_); rintro e w' ⟨rfl, ⟨nd, rfl⟩⟩))
            go_ret
            exact ⟨by first | rfl | (simp [errW_none, errW_some] <;> rfl) | (simp [*, errW_none, errW_some] <;> rfl), by repeat (first | (with_reducible first | exact HB.out | apply below_alloc | apply pw_below_drewN | apply below_drew1 | refine below_set ?_ GE173.out) | exact HB.out)⟩
        · rw [if_neg c10] at H
          have c10b0 : (a0_0 == 1) = false := beq_eq_false_iff_ne.mpr c10
          have c10b1 : (a0_0 != 1) = true := bne_iff_ne.mpr c10
          by_cases c15 : a0_2 = 0
          · rw [if_pos c15] at H
            have c15b0 : (a0_2 == 0) = true := beq_iff_eq.mpr c15
            have c15b1 : (a0_2 != 0) = false := bne_eq_false_iff_eq.mpr c15
            clear c15
            obtain rfl := Option.some.inj H
            have hcz16_0 : wc.cell? ⟨gb173, 0, none⟩ = some (.int .i64 a0_0) := (blk_cell BK173.out 0).trans rfl
            have hcz16_1 : wc.cell? ⟨gb173, 1, none⟩ = some (.int .i64 a0_1) := (blk_cell BK173.out 1).trans rfl
            have hcz16_2 : wc.cell? ⟨gb173, 2, none⟩ = some (.int .i64 a0_2) := (blk_cell BK173.out 2).trans rfl
            have hfz16_0 := blk_frozen BK173.out 0
            have hfz16_1 := blk_frozen BK173.out 1
            have hfz16_2 := blk_frozen BK173.out 2
            go_wp2
            go_ret
            exact ⟨by first | rfl | (simp [errW_none, errW_some] <;> rfl) | (simp [*, errW_none, errW_some] <;> rfl), by repeat (first | (with_reducible first | exact HB.out | apply below_alloc | apply pw_below_drewN | apply below_drew1 | refine below_set ?_ GE173.out) | exact HB.out)⟩
          · rw [if_neg c15] at H
            have c15b0 : (a0_2 == 0) = false := beq_eq_false_iff_ne.mpr c15
            have c15b1 : (a0_2 != 0) = true := bne_iff_ne.mpr c15
            obtain rfl := Option.some.inj H
            have hcz17_0 : wc.cell? ⟨gb173, 0, none⟩ = some (.int .i64 a0_0) := (blk_cell BK173.out 0).trans rfl
            have hcz17_1 : wc.cell? ⟨gb173, 1, none⟩ = some (.int .i64 a0_1) := (blk_cell BK173.out 1).trans rfl
            have hcz17_2 : wc.cell? ⟨gb173, 2, none⟩ = some (.int .i64 a0_2) := (blk_cell BK173.out 2).trans rfl
            have hfz17_0 := blk_frozen BK173.out 0
            have hfz17_1 := blk_frozen BK173.out 1
            have hfz17_2 := blk_frozen BK173.out 2
            go_wp2
            go_ret
            exact ⟨by first | rfl | (simp [errW_none, errW_some] <;> rfl) | (simp [*, errW_none, errW_some] <;> rfl), by repeat (first | (with_reducible first | exact HB.out | apply below_alloc | apply pw_below_drewN | apply below_drew1 | refine below_set ?_ GE173.out) | exact HB.out)⟩
end Go.Proofs.YtpldcikmlpegpaaGreatDoor.PB
end
section
namespace Go.Proofs.YtpldcikmlpegpaaGreatDoor.Plain
open Go.RowKit Go.Proofs.YtpldcikmlpegpaaGreatDoor.PB Go.Proofs.YtpldcikmlpegpaaGreatDoor.Col Go.Proofs.YtpldcikmlpegpaaGreatDoorW.PrintWords Go.Proofs.YtpldcikmlpegpaaGreatDoorW.PrintMore
def Ev {α : Type} (f : Nat → Option α) (r : α) : Prop := ∃ k0, ∀ k, k0 ≤ k → f k = some r
theorem Ev.pure {α : Type} {f : Nat → Option α} {r : α} (h : ∀ k, f k = some r) : Ev f r := ⟨0, fun k _ => h k⟩
theorem Ev.from {α : Type} {f : Nat → Option α} {r : α} (k0 : Nat) (h : ∀ k, k0 ≤ k → f k = some r) : Ev f r := ⟨k0, h⟩
theorem Ev.step {α : Type} {f g : Nat → Option α} {r : α} (h : ∀ k, f (k + 1) = g k) (hg : Ev g r) : Ev f r := by
  obtain ⟨k0, hk⟩ := hg
  refine ⟨k0 + 1, fun k hle => ?_⟩
  obtain ⟨k, rfl⟩ : ∃ j, k = j + 1 := ⟨k - 1, by omega⟩
  rw [h k, hk k (by omega)]
theorem Ev.bind {α β : Type} {f : Nat → Option α} {g : Nat → α → Option β} {a : α} {r : β} (hf : Ev f a) (hg : Ev (fun k => g k a) r) : Ev (fun k => (f k).bind (g k)) r := by
  obtain ⟨k0, h0⟩ := hf
  obtain ⟨k1, h1⟩ := hg
  exact ⟨max k0 k1, fun k hk => by simp only [h0 k (by omega), Option.bind_some]; exact h1 k (by omega)⟩
theorem Ev.some {α : Type} {f : Nat → Option α} {r : α} (h : Ev f r) : ∃ k, f k = Option.some r := by
  obtain ⟨k0, h0⟩ := h
  exact ⟨k0, h0 k0 (Nat.le_refl _)⟩
theorem within_eq (a b c : Int) : snowlineref02_within.f a b c = some (decide (b ≤ a ∧ a ≤ c)) := from_eq a b c
theorem layer_eq (a b c : Int) : snowlineref02_layer.f a b c = some (decide (Right ⟨a, b, c⟩)) := by
  unfold snowlineref02_layer.f
  simp only [within_eq, Option.bind_some, snowlineref02_hold.f, decide_eq_true_eq]
  by_cases h1 : 1 ≤ a ∧ a ≤ 65536
  · have ht : wrap64 (Int.tdiv a 20) = a / 20 := by rw [Int.tdiv_eq_ediv_of_nonneg (by omega), wr _ (by omega)]
    rw [if_pos h1, ht]
    by_cases h3 : 0 ≤ b ∧ b ≤ a / 20
    · rw [if_pos h3]
      by_cases h2 : 0 ≤ c ∧ c ≤ 65536
      · rw [if_pos h2]
        by_cases h4 : b = 0
        · rw [if_pos h4]; exact some_true ⟨h1.1, h1.2, h2.1, h2.2, h3.1, h3.2, .inl h4⟩
        · rw [if_neg h4]
          by_cases h5 : c = 0
          · rw [show (c == 0) = true by simp [h5]]; exact some_true ⟨h1.1, h1.2, h2.1, h2.2, h3.1, h3.2, .inr h5⟩
          · rw [show (c == 0) = false by simp [h5]]; exact some_false (fun h => h.2.2.2.2.2.2.elim h4 h5)
      · rw [if_neg h2]; exact some_false (fun h => h2 ⟨h.2.2.1, h.2.2.2.1⟩)
    · rw [if_neg h3]; exact some_false (fun h => h3 ⟨h.2.2.2.2.1, h.2.2.2.2.2.1⟩)
  · rw [if_neg h1]; exact some_false (fun h => h1 ⟨h.1, h.2.1⟩)
theorem rwater_loop (ls : List Ly) (hr : Rights ls) (hl : ls.length ≤ 128) : ∀ (d k i : Nat) (w : Int), i + d = ls.length → d < k → 0 ≤ w → w ≤ 131072 * (i : Int) →
    snowlineref02_water.l0 k ls w (i : Int) = some (w + water (ls.drop i)) := by
  intro d
  induction d with
  | zero =>
    intro k i w hi hk _ _
    obtain ⟨k, rfl⟩ : ∃ j, k = j + 1 := ⟨k - 1, by omega⟩
    unfold snowlineref02_water.l0
    rw [if_neg (by omega), List.drop_eq_nil_of_le (by omega)]
    simp [water]
  | succ d ih =>
    intro k i w hi hk h0 h1
    obtain ⟨k, rfl⟩ : ∃ j, k = j + 1 := ⟨k - 1, by omega⟩
    have hm : Right (rd_T47 ls (i : Int)) := hr _ (by
      have : rd_T47 ls (i : Int) ∈ ls.drop i := by rw [rd_drop (by omega)]; exact List.mem_cons_self
      exact List.mem_of_mem_drop this)
    obtain ⟨a, b, cc, dd, e, f, g⟩ := hm
    unfold snowlineref02_water.l0
    rw [if_pos (by omega), if_pos (by omega)]
    rw [rd_drop (show i < ls.length by omega)]
    simp only [water]
    rw [wr (w + _) (by omega), wr (w + _ + _) (by omega), wr ((i : Int) + 1) (by omega)]
    have := ih k (i + 1) (w + (rd_T47 ls (i : Int)).f0 + (rd_T47 ls (i : Int)).f1) (by omega) (by omega) (by omega) (by push_cast; omega)
    push_cast at this
    rw [this]
    congr 1
    omega
theorem rwater_eq {k : Nat} {ls : List Ly} (hr : Rights ls) (hl : ls.length ≤ 128) (hk : ls.length < k) : snowlineref02_water.f k ls = some (water ls) := by
  unfold snowlineref02_water.f
  have := rwater_loop ls hr hl ls.length k 0 0 (by omega) hk (by omega) (by omega)
  simpa using this
theorem rcold_loop (ls : List Ly) (hr : Rights ls) (hl : ls.length ≤ 128) : ∀ (d k i : Nat) (w : Int), i + d = ls.length → d < k → 0 ≤ w → w ≤ 131072 * (i : Int) →
    snowlineref02_cold.l0 k ls w (i : Int) = some (w + cold (ls.drop i)) := by
  intro d
  induction d with
  | zero =>
    intro k i w hi hk _ _
    obtain ⟨k, rfl⟩ : ∃ j, k = j + 1 := ⟨k - 1, by omega⟩
    unfold snowlineref02_cold.l0
    rw [if_neg (by omega), List.drop_eq_nil_of_le (by omega)]
    simp [cold]
  | succ d ih =>
    intro k i w hi hk h0 h1
    obtain ⟨k, rfl⟩ : ∃ j, k = j + 1 := ⟨k - 1, by omega⟩
    have hm : Right (rd_T47 ls (i : Int)) := hr _ (by
      have : rd_T47 ls (i : Int) ∈ ls.drop i := by rw [rd_drop (by omega)]; exact List.mem_cons_self
      exact List.mem_of_mem_drop this)
    obtain ⟨a, b, cc, dd, e, f, g⟩ := hm
    unfold snowlineref02_cold.l0
    rw [if_pos (by omega), if_pos (by omega)]
    rw [rd_drop (show i < ls.length by omega)]
    simp only [cold]
    rw [wr (w + _) (by omega), wr ((i : Int) + 1) (by omega)]
    have := ih k (i + 1) (w + (rd_T47 ls (i : Int)).f2) (by omega) (by omega) (by omega) (by push_cast; omega)
    push_cast at this
    rw [this]
    congr 1
    omega
theorem rcold_eq {k : Nat} {ls : List Ly} (hr : Rights ls) (hl : ls.length ≤ 128) (hk : ls.length < k) : snowlineref02_cold.f k ls = some (cold ls) := by
  unfold snowlineref02_cold.f
  have := rcold_loop ls hr hl ls.length k 0 0 (by omega) hk (by omega) (by omega)
  simpa using this
theorem rcheck_loop (ls : List Ly) (hl : ls.length ≤ 64) : ∀ (d k i : Nat), i + d = ls.length → d + 65 < k → Rights (ls.take i) →
    snowlineref02_Check.l0 k (i : Int) ls = some (checkE ls) := by
  intro d
  induction d with
  | zero =>
    intro k i hi hk h
    obtain ⟨k, rfl⟩ : ∃ j, k = j + 1 := ⟨k - 1, by omega⟩
    rw [List.take_of_length_le (by omega)] at h
    unfold snowlineref02_Check.l0
    rw [if_neg (by omega), rwater_eq h (by omega) (by omega), rcold_eq h (by omega) (by omega)]
    simp only [Option.bind_some, checkE]
    by_cases hw : water ls > 65536
    · rw [if_pos hw, if_neg (fun hv : Valid ls => by have := hv.2.2.1; omega)]
    · rw [if_neg hw]
      by_cases hc : cold ls > 65536
      · rw [if_pos hc, if_neg (fun hv : Valid ls => by have := hv.2.2.2; omega)]
      · rw [if_neg hc, if_pos (show Valid ls from ⟨hl, h, by omega, by omega⟩)]
  | succ d ih =>
    intro k i hi hk h
    obtain ⟨k, rfl⟩ : ∃ j, k = j + 1 := ⟨k - 1, by omega⟩
    unfold snowlineref02_Check.l0
    rw [if_pos (by omega), if_pos (by omega), layer_eq]
    simp only [Option.bind_some, decide_eq_true_eq]
    have hd := rd_drop (show i < ls.length by omega)
    by_cases hr : Right (rd_T47 ls (i : Int))
    · rw [if_pos (by exact hr), wr ((i : Int) + 1) (by omega)]
      have := ih k (i + 1) (by omega) (by omega) (by
        intro x hx
        rw [List.take_add_one] at hx
        rcases List.mem_append.mp hx with hx | hx
        · exact h x hx
        · have e : ls[i]?.toList = [rd_T47 ls (i : Int)] := by
            simp [rd_T47, List.getD_eq_getElem?_getD, show i < ls.length by omega]
          rw [e] at hx
          rw [List.mem_singleton.mp hx]
          exact hr)
      push_cast at this
      exact this
    · rw [if_neg (by exact hr), checkE, if_neg]
      intro hv
      exact hr (hv.2.1 _ (by
        have : rd_T47 ls (i : Int) ∈ ls.drop i := by rw [hd]; exact List.mem_cons_self
        exact List.mem_of_mem_drop this))
theorem rcheck_eq {k : Nat} (hk : 130 ≤ k) (ls : List Ly) : snowlineref02_Check.f k ls = some (checkE ls) := by
  unfold snowlineref02_Check.f
  by_cases h : (ls.length : Int) > 64
  · rw [if_pos h, checkE, if_neg (by rintro ⟨h1, _⟩; omega)]
  · rw [if_neg h]
    exact rcheck_loop ls (by omega) ls.length k 0 (by omega) (by omega) (by intro x hx; simp at hx)
theorem rstep_eq {j : Nat} (k m cd : Int) : snowlineref02_CheckStep.f (j + 1) k m cd = some (stepE k m cd) := by
  unfold snowlineref02_CheckStep.f stepE
  simp only [snowlineref02_CheckStep.j0, within_eq, Option.bind_some, decide_eq_true_eq]
  by_cases h1 : 1 ≤ k ∧ k ≤ 6
  · rw [if_pos h1]
    by_cases h2 : 0 ≤ m ∧ m ≤ 65536
    · rw [decide_eq_true h2]
      by_cases hk : k = 1
      · rw [if_pos hk]
        by_cases h3 : 0 ≤ cd ∧ cd ≤ 65536
        · rw [if_neg (by simp), if_pos h3, if_pos (show StepOk k m cd from ⟨h1, h2, by rw [if_pos hk]; exact h3⟩)]
        · rw [if_neg (by simp), if_neg h3, if_neg (fun h : StepOk k m cd => h3 (by have := h.2.2; rw [if_pos hk] at this; exact this))]
      · rw [if_neg hk]
        by_cases h3 : cd = 0
        · rw [if_neg (by simp), if_pos h3, if_pos (show StepOk k m cd from ⟨h1, h2, by rw [if_neg hk]; omega⟩)]
        · rw [if_neg (by simp), if_neg h3, if_neg (fun h : StepOk k m cd => h3 (by have := h.2.2; rw [if_neg hk] at this; omega))]
    · rw [decide_eq_false h2, if_pos (by simp), if_neg (fun h : StepOk k m cd => h2 h.2.1)]
  · rw [if_neg h1, if_pos trivial, if_neg (fun h : StepOk k m cd => h1 h.1)]
end Go.Proofs.YtpldcikmlpegpaaGreatDoor.Plain
end
section
namespace Go.Proofs.YtpldcikmlpegpaaGreatDoor.PB
open Go.RowKit Go.Proofs.YtpldcikmlpegpaaGreatDoorW.PrintWords Go.Proofs.YtpldcikmlpegpaaGreatDoorW.PrintLast Go.Proofs.YtpldcikmlpegpaaGreatDoorW.PrintMore
def wordsB : List ByteArray := [⟨#[115, 110, 111, 119]⟩, ⟨#[114, 97, 105, 110]⟩, ⟨#[109, 101, 108, 116]⟩, ⟨#[102, 114, 111, 115, 116]⟩, ⟨#[108, 111, 115, 115]⟩, ⟨#[98, 108, 111, 119, 110]⟩]
def wordB (k : Int) : ByteArray := wordsB.getD (k - 1).toNat ByteArray.empty
def spB : ByteArray := ⟨#[32]⟩
def stepT (k m c : Int) : ByteArray := if k = 1 then wordB k ++ spB ++ itoaB m ++ spB ++ itoaB c else wordB k ++ spB ++ itoaB m
theorem words_at (w : World) : Calls Tryz.prog 23 #[] w fun e w' => e = .returned (.slice (some ⟨w.heap.size, 0, none⟩) 6 6) ∧ w' = w.alloc (.cells (wordsB.map Value.string).toArray 9 (0, 0)) := by
  go_enter Tryz.func23, Tryz.ntmps23
  go_wp2
  all_goals (go_ret; exact ⟨rfl, rfl⟩)
def RowS (W : World) (j : Int) (x : ByteArray) (w' : World) : Prop := Below W.heap.size W w' ∧ (W.heap.size < w'.heap.size → w'.cell? (⟨W.heap.size, j.toNat, none⟩) = some (.string x))
theorem words_at2 (W : World) (j : Int) (h0 : 0 ≤ j) (h1 : j < 6) : Calls Tryz.prog 23 #[] W.drew fun e w' => e = .returned (.slice (some ⟨W.heap.size, 0, none⟩) 6 6) ∧ w'.cell? (⟨W.heap.size, j.toNat, none⟩) = some (.string (wordB (j + 1))) ∧ RowS W j (wordB (j + 1)) w' ∧ Below W.heap.size W.drew w' := by
  refine (words_at W.drew).mono ?_
  rintro e w' ⟨rfl, rfl⟩
  have hc : (W.drew.alloc (.cells (wordsB.map Value.string).toArray 9 (0, 0))).cell? (⟨W.heap.size, j.toNat, none⟩) = some (.string (wordB (j + 1))) := by
    have hb := blk_new W.drew (.cells (wordsB.map Value.string).toArray 9 (0, 0))
    have := blk_cell hb j.toNat
    have e : (⟨W.drew.heap.size, j.toNat, none⟩ : Addr) = ⟨W.heap.size, j.toNat, none⟩ := rfl
    rw [e] at this
    rw [this]
    have hj : j = 0 ∨ j = 1 ∨ j = 2 ∨ j = 3 ∨ j = 4 ∨ j = 5 := by omega
    rcases hj with rfl | rfl | rfl | rfl | rfl | rfl <;> rfl
  have hb : Below W.heap.size W.drew (W.drew.alloc (.cells (wordsB.map Value.string).toArray 9 (0, 0))) := (Below.refl W.heap.size W.drew).alloc (show W.heap.size ≤ W.drew.heap.size from Nat.le_refl _) _
  exact ⟨rfl, hc, ⟨(Below.refl _ _).drew.trans hb, fun _ => hc⟩, hb⟩
theorem row_keep {W w w' : World} {j : Int} {x : ByteArray} (h : w.cell? (⟨W.heap.size, j.toNat, none⟩) = some (.string x)) (hr : RowS W j x w) (hb : Below w.heap.size w w') : w'.cell? (⟨W.heap.size, j.toNat, none⟩) = some (.string x) ∧ RowS W j x w' := by
  have hc : w'.cell? (⟨W.heap.size, j.toNat, none⟩) = some (.string x) := pw_cell_below hb h
  exact ⟨hc, below_step hr.1 hb, fun _ => hc⟩
theorem RowS.below {W w' : World} {j : Int} {x : ByteArray} (h : RowS W j x w') : Below W.heap.size W w' := h.1
def pack_PrintStep.f (a0_0 a0_1 a0_2 : Int) : Option (ByteArray × Int) := some (if Plain.StepOk a0_0 a0_1 a0_2 then (stepT a0_0 a0_1 a0_2, 0) else (⟨#[]⟩, 21))
set_option maxRecDepth 100000 in
set_option maxHeartbeats 1000000 in
theorem pstep_bad (a0_0 a0_1 a0_2 : Int) (w : World) (h : ¬ Plain.StepOk a0_0 a0_1 a0_2) :
    Calls Tryz.prog 6 #[.agg #[.int .i64 a0_0, .int .i64 a0_1, .int .i64 a0_2]] w fun e w' => e = .returned (.tuple #[.string ⟨#[]⟩, .int .i64 21]) ∧ Below w.heap.size w w' := by
  have hu23 := Tryz.underlying23
  have HE : Aside0 (pack_CheckStep.f 5 a0_0 a0_1 a0_2 = some 21) := ⟨by rw [Plain.step_eq, Plain.stepE, if_neg h]⟩
  clear h
  go_enter Tryz.func6, Tryz.ntmps6
  go_upto_region 1 with (fail)
  obtain ⟨B, hB⟩ : ∃ B, w.heap.size = B := ⟨_, rfl⟩
  obtain ⟨W1, hW1⟩ : ∃ W1, w.alloc (.cells #[.int .i64 a0_0, .int .i64 a0_1, .int .i64 a0_2] 23 (0, 0)) = W1 := ⟨_, rfl⟩
  have p0 : W1.heap[B]? = some (.cells #[.int .i64 a0_0, .int .i64 a0_1, .int .i64 a0_2] 23 (0, 0)) := by rw [← hW1, ← hB]; exact blk_new _ _
  have b1 : Below B w W1 := by rw [← hW1, ← hB]; exact (Below.refl _ _).alloc (Nat.le_refl _) _
  rw [hW1, hB]
  have HB := Aside0.mk b1
  have HBq := Aside0.mk hB
  have HS : Aside0 (B ≤ W1.heap.size) := ⟨by have := blk_lt p0; omega⟩
  have q0 : W1.cell? ⟨B, 0, none⟩ = some (.int .i64 a0_0) := (blk_cell p0 0).trans rfl
  have q1 : W1.cell? ⟨B, 1, none⟩ = some (.int .i64 a0_1) := (blk_cell p0 1).trans rfl
  have q2 : W1.cell? ⟨B, 2, none⟩ = some (.int .i64 a0_2) := (blk_cell p0 2).trans rfl
  clear hW1 p0 b1
  go_wp2_with (first | (go_at_call 22; refine (pack_CheckStep.calls 5 a0_0 a0_1 a0_2 21 _ HE.out).mono ?_; rintro e w2 ⟨rfl, hb⟩; have HB2 := Aside0.mk hb; clear hb q0 q1 q2))
  all_goals (go_ret2; exact ⟨rfl, by rw [HBq.out]; exact HB.out.trans (HB2.out.mono HS.out)⟩)
set_option maxRecDepth 100000 in
set_option maxHeartbeats 1000000 in
theorem pstep_ok (a0_0 a0_1 a0_2 : Int) (x n1 n2 : ByteArray) (w : World) (hG : Glob w) (h : Plain.StepOk a0_0 a0_1 a0_2) (hx : wordB a0_0 = x) (h1 : strconv_Itoa.f a0_1 = some n1) (h2 : strconv_Itoa.f a0_2 = some n2)
    (z1 : (9223372036854775807 < x.size + 1) = False) (z2 : (9223372036854775807 < x.size + 1 + n1.size) = False) (z3 : (9223372036854775807 < 1 + n2.size) = False) (z4 : (9223372036854775807 < x.size + 1 + n1.size + (1 + n2.size)) = False) :
    Calls Tryz.prog 6 #[.agg #[.int .i64 a0_0, .int .i64 a0_1, .int .i64 a0_2]] w fun e w' => e = .returned (.tuple #[.string (if a0_0 = 1 then x ++ spB ++ n1 ++ (spB ++ n2) else x ++ spB ++ n1), .int .i64 0]) ∧ Below w.heap.size w w' := by
  have hu23 := Tryz.underlying23
  have HE : Aside0 (pack_CheckStep.f 5 a0_0 a0_1 a0_2 = some 0) := ⟨by rw [Plain.step_eq, Plain.stepE, if_pos h]⟩
  obtain ⟨j, hj⟩ : ∃ j, wrap64 (a0_0 - 1) = j := ⟨_, rfl⟩
  have hjw : (IntKind.i64.wrap (a0_0 - 1)) = j := (i64_w _).trans hj
  have hj1 : j = a0_0 - 1 := by rw [← hj]; exact Plain.wr _ (by have := h.1; omega)
  have j0 : (0 : Int) ≤ j := by have := h.1; omega
  have j6 : j < 6 := by have := h.1; omega
  have HX : Aside0 (wordB (j + 1) = x) := ⟨by rw [← hx, hj1]; congr 1; omega⟩
  have HJ := Aside0.mk j0
  have HJ6 := Aside0.mk j6
  have j0d : decide (0 ≤ j) = true := decide_eq_true j0
  have j6d : decide (j < 6) = true := decide_eq_true j6
  have H1 := Aside0.mk h1
  have H2 := Aside0.mk h2
  have HG := Aside0.mk hG
  obtain ⟨r, hr⟩ : ∃ r, (if a0_0 = 1 then x ++ spB ++ n1 ++ (spB ++ n2) else x ++ spB ++ n1) = r := ⟨_, rfl⟩
  rw [hr]
  have HR := Aside0.mk hr
  clear h hx h1 h2 hG hj hj1 hr
  go_enter Tryz.func6, Tryz.ntmps6
  go_upto_region 1 with (fail)
  obtain ⟨B, hB⟩ : ∃ B, w.heap.size = B := ⟨_, rfl⟩
  obtain ⟨W1, hW1⟩ : ∃ W1, w.alloc (.cells #[.int .i64 a0_0, .int .i64 a0_1, .int .i64 a0_2] 23 (0, 0)) = W1 := ⟨_, rfl⟩
  have p0 : W1.heap[B]? = some (.cells #[.int .i64 a0_0, .int .i64 a0_1, .int .i64 a0_2] 23 (0, 0)) := by rw [← hW1, ← hB]; exact blk_new _ _
  have b1 : Below B w W1 := by rw [← hW1, ← hB]; exact (Below.refl _ _).alloc (Nat.le_refl _) _
  rw [hW1, hB]
  have HBq := Aside0.mk hB
  have K : Aside0 (∀ wX, Below W1.heap.size W1 wX → (wX.cell? ⟨B, 0, none⟩ = some (.int .i64 a0_0) ∧ wX.cell? ⟨B, 1, none⟩ = some (.int .i64 a0_1) ∧ wX.cell? ⟨B, 2, none⟩ = some (.int .i64 a0_2)) ∧ Glob wX ∧ Below B w wX) := ⟨fun wX hb => by
    have q0 : W1.cell? ⟨B, 0, none⟩ = some (.int .i64 a0_0) := (blk_cell p0 0).trans rfl
    have q1 : W1.cell? ⟨B, 1, none⟩ = some (.int .i64 a0_1) := (blk_cell p0 1).trans rfl
    have q2 : W1.cell? ⟨B, 2, none⟩ = some (.int .i64 a0_2) := (blk_cell p0 2).trans rfl
    have hbw : Below B w wX := b1.trans (hb.mono (by have := blk_lt p0; omega))
    exact ⟨⟨pw_cell_below hb q0, pw_cell_below hb q1, pw_cell_below hb q2⟩, HG.out.below hbw (by omega), hbw⟩⟩
  obtain ⟨q0, q1, q2⟩ := (K.out _ (Below.refl _ _)).1
  clear hW1 p0 b1 hB
  go_upto_if 9 with (first | (go_at_call 22; refine (pack_CheckStep.calls 5 a0_0 a0_1 a0_2 0 _ HE.out).mono ?_; rintro e w2 ⟨rfl, hb⟩; have HB2 := Aside0.mk hb; clear hb))
  clear q0 q1 q2
  obtain ⟨q0, q1, q2⟩ := (K.out _ HB2.out).1
  go_upto_region 4 with (fail)
  have q0d : w2.drew.cell? ⟨B, 0, none⟩ = some (.int .i64 a0_0) := q0
  have q1d : w2.drew.cell? ⟨B, 1, none⟩ = some (.int .i64 a0_1) := q1
  go_region_with
    (first
      | (go_at_call 23; refine (words_at2 w2 j HJ.out HJ6.out).mono ?_; rw [HX.out]; rintro e w5 ⟨rfl, hc5, hr5, hb5⟩; have q0a := pw_cell_below (RowS.below hr5) q0; have q1a := pw_cell_below (RowS.below hr5) q1)
      | (go_at_call 24; refine (strconv_Itoa.calls a0_1 n1 _ (K.out _ (below_step HB2.out (RowS.below (j := j) (x := x) (by assumption)))).2.1 H1.out).mono ?_; rintro e w6 ⟨rfl, hb6⟩; obtain ⟨hc6, hr6⟩ := row_keep (W := w2) (j := j) (x := x) (by assumption) (by assumption) hb6; have q0b := pw_cell_below (RowS.below hr6) q0; have q1b := pw_cell_below (RowS.below hr6) q1))
  all_goals
    have HB6 := Aside0.mk (below_step HB2.out (RowS.below hr6))
    clear q0 q1 q2 hc6 hr6 hb6
    obtain ⟨q0, q1, q2⟩ := (K.out _ HB6.out).1
    by_cases hk : a0_0 = 1
    · have hk1 : (a0_0 == 1) = true := by simp [hk]
      have HK := Aside0.mk hk
      clear hk
      go_wp2_with (first | (go_at_call 24; refine (strconv_Itoa.calls a0_2 n2 _ (K.out _ HB6.out).2.1 H2.out).mono ?_; rintro e w7 ⟨rfl, hb7⟩; have HB7 := Aside0.mk (below_step HB6.out hb7); clear hb7))
      all_goals (go_ret2; exact ⟨by rw [← HR.out, if_pos HK.out]; rfl, by rw [HBq.out]; exact (K.out _ HB7.out).2.2⟩)
    · have hk1 : (a0_0 == 1) = false := by simp [hk]
      have HK := Aside0.mk hk
      clear hk
      go_wp2
      all_goals (go_ret2; exact ⟨by rw [← HR.out, if_neg HK.out]; rfl, by rw [HBq.out]; exact (K.out _ HB6.out).2.2⟩)
end Go.Proofs.YtpldcikmlpegpaaGreatDoor.PB
end
section
namespace Go.Proofs.YtpldcikmlpegpaaGreatDoor.PB
open Go.RowKit Go.Proofs.YtpldcikmlpegpaaGreatDoorW.PrintWords Go.Proofs.YtpldcikmlpegpaaGreatDoorW.PrintLast Go.Proofs.YtpldcikmlpegpaaGreatDoorW.PrintMore
attribute [local go_sem] max2_int min2_int max_two min_two max_three min_three max_four min_four   -- for this text's walks alone
set_option linter.unusedVariables false
set_option linter.unusedSimpArgs false
def snowlineref02_number.f : Nat → Int → Option (ByteArray)
  | 0, _ => none
  | k + 1, a0 => if a0 < 10 then (if 0 ≤ a0 then (if a0 ≤ (wrap64 (a0 + 1)) then (if (wrap64 (a0 + 1)) ≤ 10 then (some ((⟨#[48, 49, 50, 51, 52, 53, 54, 55, 56, 57]⟩ : ByteArray).extract (a0 : Int).toNat ((wrap64 (a0 + 1)) : Int).toNat)) else (none)) else (none)) else (none)) else ((snowlineref02_number.f k (wrap64 (Int.tdiv a0 10))).bind fun t177 => (if 0 ≤ (Int.tmod a0 10) then (if (Int.tmod a0 10) ≤ (wrap64 ((Int.tmod a0 10) + 1)) then (if (wrap64 ((Int.tmod a0 10) + 1)) ≤ 10 then (if t177.size + ((⟨#[48, 49, 50, 51, 52, 53, 54, 55, 56, 57]⟩ : ByteArray).extract ((Int.tmod a0 10) : Int).toNat ((wrap64 ((Int.tmod a0 10) + 1)) : Int).toNat).size ≤ 9223372036854775807 then (some (t177 ++ ((⟨#[48, 49, 50, 51, 52, 53, 54, 55, 56, 57]⟩ : ByteArray).extract ((Int.tmod a0 10) : Int).toNat ((wrap64 ((Int.tmod a0 10) + 1)) : Int).toNat))) else (none)) else (none)) else (none)) else (none)))
def snowlineref02_number.T3 : Bool × List (List Nat × List Nat) := (true, [([], []), ([0], [0]), ([1], [1]), ([], []), ([3], [3]), ([], []), ([5], [5]), ([6], [6]), ([4, 7], [4, 7]), ([2, 8], [2, 8]), ([9, 2, 0, 1, 2, 3, 4, 5, 6, 7, 8, 9], [9])])
def snowlineref02_number.B3 : List Nat := [0, 1, 3, 0, 8, 0, 32, 96, 248, 511, 1023]
theorem snowlineref02_number.tab3 : rtab .any (opsOf Tryz.f27 3) = snowlineref02_number.T3 := by kernel_rfl
theorem snowlineref02_number.bits3 : waitsOk snowlineref02_number.T3.2 snowlineref02_number.B3 = true := by kernel_rfl
set_option maxHeartbeats 8000000 in
set_option maxRecDepth 100000 in
theorem snowlineref02_number.calls (k : Nat) : ∀ (a0 : Int) (r : ByteArray) (w : World) (h : snowlineref02_number.f k a0 = some r),
    Calls Tryz.prog 27 #[.int .i64 a0] w fun e w' => e = .returned (.string r) ∧ Below w.heap.size w w' := by
  induction k using Nat.strongRecOn with
  | _ k ih =>
  intro a0 r w h
  cases k with
  | zero => exact absurd h (by simp [snowlineref02_number.f])
  | succ k =>
  simp only [snowlineref02_number.f] at h
  have HB := Aside0.mk (Below.refl w.heap.size w)
  have H : (if a0 < 10 then (if 0 ≤ a0 then (if a0 ≤ (wrap64 (a0 + 1)) then (if (wrap64 (a0 + 1)) ≤ 10 then (some ((⟨#[48, 49, 50, 51, 52, 53, 54, 55, 56, 57]⟩ : ByteArray).extract (a0 : Int).toNat ((wrap64 (a0 + 1)) : Int).toNat)) else (none)) else (none)) else (none)) else ((snowlineref02_number.f k (wrap64 (Int.tdiv a0 10))).bind fun t177 => (if 0 ≤ (Int.tmod a0 10) then (if (Int.tmod a0 10) ≤ (wrap64 ((Int.tmod a0 10) + 1)) then (if (wrap64 ((Int.tmod a0 10) + 1)) ≤ 10 then (if t177.size + ((⟨#[48, 49, 50, 51, 52, 53, 54, 55, 56, 57]⟩ : ByteArray).extract ((Int.tmod a0 10) : Int).toNat ((wrap64 ((Int.tmod a0 10) + 1)) : Int).toNat).size ≤ 9223372036854775807 then (some (t177 ++ ((⟨#[48, 49, 50, 51, 52, 53, 54, 55, 56, 57]⟩ : ByteArray).extract ((Int.tmod a0 10) : Int).toNat ((wrap64 ((Int.tmod a0 10) + 1)) : Int).toNat))) else (none)) else (none)) else (none)) else (none)))) = some r := h
  clear h
  by_cases c2 : a0 < 10
  · rw [if_pos c2] at H
    have c2b0 : decide (a0 < 10) = true := decide_eq_true c2
    clear c2
    by_cases c3 : 0 ≤ a0
    · rw [if_pos c3] at H
      have c3b0 := eq_true c3
      have c3b1 : decide (0 ≤ a0) = true := decide_eq_true c3
      clear c3
      by_cases c4 : a0 ≤ (wrap64 (a0 + 1))
      · rw [if_pos c4] at H
        have c4b0 := eq_true c4
        have c4b1 : decide (a0 ≤ (wrap64 (a0 + 1))) = true := decide_eq_true c4
        by_cases c5 : (wrap64 (a0 + 1)) ≤ 10
        · rw [if_pos c5] at H
          have c5b0 := eq_true c5
          have c5b1 : decide ((wrap64 (a0 + 1)) ≤ 10) = true := decide_eq_true c5
          obtain rfl := Option.some.inj H
          go_enter Tryz.func27, Tryz.ntmps27
          go_wp2
          go_ret
          exact ⟨by first | rfl | (simp [errW_none, errW_some] <;> rfl) | (simp [*, errW_none, errW_some] <;> rfl), by repeat (first | (with_reducible first | exact HB.out | apply below_alloc | apply pw_below_drewN | apply below_drew1) | exact HB.out)⟩
        · rw [if_neg c5] at H
          exact absurd H (by simp)
      · rw [if_neg c4] at H
        exact absurd H (by simp)
    · rw [if_neg c3] at H
      exact absurd H (by simp)
  · rw [if_neg c2] at H
    have c2b0 : decide (a0 < 10) = false := decide_eq_false c2
    clear c2
    replace H := Option.bind_eq_some_iff.mp H
    obtain ⟨t177, A60, H⟩ := H
    replace H : (if 0 ≤ (Int.tmod a0 10) then (if (Int.tmod a0 10) ≤ (wrap64 ((Int.tmod a0 10) + 1)) then (if (wrap64 ((Int.tmod a0 10) + 1)) ≤ 10 then (if t177.size + ((⟨#[48, 49, 50, 51, 52, 53, 54, 55, 56, 57]⟩ : ByteArray).extract ((Int.tmod a0 10) : Int).toNat ((wrap64 ((Int.tmod a0 10) + 1)) : Int).toNat).size ≤ 9223372036854775807 then (some (t177 ++ ((⟨#[48, 49, 50, 51, 52, 53, 54, 55, 56, 57]⟩ : ByteArray).extract ((Int.tmod a0 10) : Int).toNat ((wrap64 ((Int.tmod a0 10) + 1)) : Int).toNat))) else (none)) else (none)) else (none)) else (none)) = some r := H
    have A6 := Aside0.mk A60
    clear A60
    obtain ⟨ji7, hji7⟩ : ∃ j_ : Int, (Int.tmod a0 10) = j_ := ⟨_, rfl⟩
    replace H : (if 0 ≤ (ji7) then (if (ji7) ≤ (wrap64 ((ji7) + 1)) then (if (wrap64 ((ji7) + 1)) ≤ 10 then (if t177.size + ((⟨#[48, 49, 50, 51, 52, 53, 54, 55, 56, 57]⟩ : ByteArray).extract ((ji7) : Int).toNat ((wrap64 ((ji7) + 1)) : Int).toNat).size ≤ 9223372036854775807 then (some (t177 ++ ((⟨#[48, 49, 50, 51, 52, 53, 54, 55, 56, 57]⟩ : ByteArray).extract ((ji7) : Int).toNat ((wrap64 ((ji7) + 1)) : Int).toNat))) else (none)) else (none)) else (none)) else (none)) = some r := by first | (rw [hji7] at H; exact H) | (simp only [hji7] at H ⊢; exact H)
    (try rw [hji7] at A6)
    by_cases c8 : 0 ≤ (ji7)
    · rw [if_pos c8] at H
      have c8b0 := eq_true c8
      have c8b1 : decide (0 ≤ (ji7)) = true := decide_eq_true c8
      clear c8
      by_cases c9 : (ji7) ≤ (wrap64 ((ji7) + 1))
      · rw [if_pos c9] at H
        have c9b0 := eq_true c9
        have c9b1 : decide ((ji7) ≤ (wrap64 ((ji7) + 1))) = true := decide_eq_true c9
        by_cases c10 : (wrap64 ((ji7) + 1)) ≤ 10
        · rw [if_pos c10] at H
          have c10b0 := eq_true c10
          have c10b1 : decide ((wrap64 ((ji7) + 1)) ≤ 10) = true := decide_eq_true c10
          by_cases c11 : t177.size + ((⟨#[48, 49, 50, 51, 52, 53, 54, 55, 56, 57]⟩ : ByteArray).extract ((ji7) : Int).toNat ((wrap64 ((ji7) + 1)) : Int).toNat).size ≤ 9223372036854775807
          · rw [if_pos c11] at H
            have c11b0 := eq_true c11
            have c11b1 : decide (t177.size + ((⟨#[48, 49, 50, 51, 52, 53, 54, 55, 56, 57]⟩ : ByteArray).extract ((ji7) : Int).toNat ((wrap64 ((ji7) + 1)) : Int).toNat).size ≤ 9223372036854775807) = true := decide_eq_true c11
            try have c11b2 : (9223372036854775807 < t177.size + ((⟨#[48, 49, 50, 51, 52, 53, 54, 55, 56, 57]⟩ : ByteArray).extract ((ji7) : Int).toNat ((wrap64 ((ji7) + 1)) : Int).toNat).size) = False := eq_false (Nat.not_lt.2 c11)
            have c11n : (9223372036854775807 < t177.size + (((wrap64 ((ji7) + 1)) : Int).toNat - ((ji7) : Int).toNat)) = False := by
              have e := c11b2
              rw [ByteArray.size_extract, show min ((wrap64 ((ji7) + 1)) : Int).toNat (⟨#[48, 49, 50, 51, 52, 53, 54, 55, 56, 57]⟩ : ByteArray).size = ((wrap64 ((ji7) + 1)) : Int).toNat from Nat.min_eq_left (by show _ ≤ 10; omega)] at e
              exact e
            obtain rfl := Option.some.inj H
            go_enter Tryz.func27, Tryz.ntmps27
            try go_wp2
            have n0_ := Aside0.mk (below_drew1 HB.out)
            clear HB
            have HB := n0_
            clear n0_
            refine start_ (n := 11) (S := fun w' => True) (ds := []) #[false, false, false, false, false, false, false, false, false, false, false] (by kernel_rfl) rfl rfl trivial (fun hHeld => ?_); refine with_tabW snowlineref02_number.tab3 snowlineref02_number.bits3 (fun HT_ HW_ => ?_)
            generalize w.drew = w12 at HB hHeld ⊢
            refine pure_ (i := 0) (N := some 9) (v := ?_) (a' := ?_) #[true, false, false, false, false, false, false, false, false, false, false] rfl rfl (any_of HT_.out (by kernel_rfl)) (fun _ _ _ h => h) (Or.inl ⟨by rfl, ?_⟩) ?_ ?_
            rotate_left
            · intro w'
              go_simp
              with_reducible rfl
            rotate_left
            · simp only [Act.put, List.setIfInBounds_toArray, List.set_cons_zero, List.set_cons_succ, i64_w, i32_w]
              rfl
            refine pure_ (i := 1) (N := some 10) (v := ?_) (a' := ?_) #[true, true, false, false, false, false, false, false, false, false, false] rfl rfl (any_of HT_.out (by kernel_rfl)) (fun _ _ _ h => h) (Or.inl ⟨by rfl, ?_⟩) ?_ ?_
            rotate_left
            · intro w'
              go_simp
              with_reducible rfl
            rotate_left
            · simp only [Act.put, List.setIfInBounds_toArray, List.set_cons_zero, List.set_cons_succ, i64_w, i32_w]
              rfl
            refine pure_ (i := 3) (N := some 12) (v := ?_) (a' := ?_) #[true, true, false, true, false, false, false, false, false, false, false] rfl rfl (any_of HT_.out (by kernel_rfl)) (fun _ _ _ h => h) (Or.inl ⟨by rfl, ?_⟩) ?_ ?_
            rotate_left
            · intro w'
              go_simp
              with_reducible rfl
            rotate_left
            · simp only [Act.put, List.setIfInBounds_toArray, List.set_cons_zero, List.set_cons_succ, i64_w, i32_w]
              rfl
            refine pure_ (i := 4) (N := some 13) (v := ?_) (a' := ?_) #[true, true, false, true, true, false, false, false, false, false, false] rfl rfl (any_of HT_.out (by kernel_rfl)) (fun _ _ _ h => h) (Or.inl ⟨by rfl, ?_⟩) ?_ ?_
            rotate_left
            · intro w'
              go_simp
              with_reducible rfl
            rotate_left
            · simp only [Act.put, List.setIfInBounds_toArray, List.set_cons_zero, List.set_cons_succ, i64_w, i32_w]
              rfl
            refine pure_ (i := 5) (N := some 14) (v := ?_) (a' := ?_) #[true, true, false, true, true, true, false, false, false, false, false] rfl rfl (any_of HT_.out (by kernel_rfl)) (fun _ _ _ h => h) (Or.inl ⟨by rfl, ?_⟩) ?_ ?_
            rotate_left
            · intro w'
              go_simp
              with_reducible rfl
            rotate_left
            · simp only [Act.put, List.setIfInBounds_toArray, List.set_cons_zero, List.set_cons_succ, i64_w, i32_w]
              rfl
            refine pure_ (i := 6) (N := some 15) (v := ?_) (a' := ?_) #[true, true, false, true, true, true, true, false, false, false, false] rfl rfl (any_of HT_.out (by kernel_rfl)) (fun _ _ _ h => h) (Or.inl ⟨by rfl, ?_⟩) ?_ ?_
            rotate_left
            · intro w'
              go_simp
              with_reducible rfl
            rotate_left
            · simp only [Act.put, List.setIfInBounds_toArray, List.set_cons_zero, List.set_cons_succ, i64_w, i32_w]
              rfl
            refine pure_ (i := 7) (N := some 16) (v := ?_) (a' := ?_) #[true, true, false, true, true, true, true, true, false, false, false] rfl rfl (any_of HT_.out (by kernel_rfl)) (fun _ _ _ h => h) (Or.inl ⟨by rfl, ?_⟩) ?_ ?_
            rotate_left
            · intro w'
              go_simp
              with_reducible rfl
            rotate_left
            · simp only [Act.put, List.setIfInBounds_toArray, List.set_cons_zero, List.set_cons_succ, i64_w, i32_w]
              rfl
            refine pure_ (i := 8) (N := some 17) (v := ?_) (a' := ?_) #[true, true, false, true, true, true, true, true, true, false, false] rfl rfl (any_of HT_.out (by kernel_rfl)) (fun _ _ _ h => h) (Or.inl ⟨by rfl, ?_⟩) ?_ ?_
            rotate_left
            · intro w'
              go_simp
              with_reducible rfl
            rotate_left
            · simp only [Act.put, List.setIfInBounds_toArray, List.set_cons_zero, List.set_cons_succ, i64_w, i32_w]
              rfl
            refine one_ (i := 2) (N := some 11) #[true, true, true, true, true, true, true, true, true, false, false] rfl rfl (one_of HT_.out (by kernel_rfl)) (by decide) (fun K hK => ?_)
            refine goes_ Tryz.func27 (by kernel_rfl) rfl #[.int .i64 (wrap64 (Int.tdiv a0 10))] (by rfl) rfl rfl (by (try simp only [List.map_toArray, List.map_cons, List.map_nil]); first | done | rfl | (simp only [List.length_drop, List.length_take]; rfl)) ?_
            with_reducible refine (ih k (by omega) (wrap64 (Int.tdiv a0 10)) t177 _ A6.out).mono ?_
            rintro e w13 ⟨rfl, hb⟩
            refine ⟨_, rfl, ?_⟩
            have n0_ := Aside0.mk (below_step (by repeat (first | (with_reducible first | exact HB.out | apply below_alloc | apply pw_below_drewN | apply below_drew1) | exact HB.out)) hb)
            clear HB
            have HB := n0_
            clear n0_
            (try clear hb)
            (try clear hb2)
            (try clear hk)
            (try clear hi)
            refine hK.out _ _ trivial (fun hHeld => ?_)
            clear hK K
            refine norm_ (a' := ?_) ?_ ?_
            rotate_left
            · show Act.put _ (some 11) _ = _
              simp only [Act.put, List.setIfInBounds_toArray, List.set_cons_zero, List.set_cons_succ, i64_w, i32_w]
              rfl
            refine pure_ (i := 9) (N := some 18) (v := ?_) (a' := ?_) #[true, true, true, true, true, true, true, true, true, true, false] rfl rfl (any_of HT_.out (by kernel_rfl)) (fun _ _ _ h => h) (Or.inl ⟨by rfl, ?_⟩) ?_ ?_
            rotate_left
            · intro w'
              go_simp
              with_reducible rfl
            rotate_left
            · simp only [Act.put, List.setIfInBounds_toArray, List.set_cons_zero, List.set_cons_succ, i64_w, i32_w]
              rfl
            refine pure_ (i := 10) (N := some 2) (v := ?_) (a' := ?_) #[true, true, true, true, true, true, true, true, true, true, true] rfl rfl (any_of HT_.out (by kernel_rfl)) (fun _ _ _ h => h) (Or.inl ⟨by rfl, ?_⟩) ?_ ?_
            rotate_left
            · intro w'
              go_simp
              with_reducible rfl
            rotate_left
            · simp only [Act.put, List.setIfInBounds_toArray, List.set_cons_zero, List.set_cons_succ, i64_w, i32_w]
              rfl
            refine done_ (done_of HT_.out (by kernel_rfl)) ?_
            try go_wp2
            go_ret
            exact ⟨by first | rfl | (simp [errW_none, errW_some] <;> rfl) | (simp only [← hji7]; first | rfl | (simp [errW_none, errW_some] <;> rfl)) | (simp [*, errW_none, errW_some] <;> rfl), by repeat (first | (with_reducible first | exact HB.out | apply below_alloc | apply pw_below_drewN | apply below_drew1) | exact HB.out)⟩
          · rw [if_neg c11] at H
            exact absurd H (by simp)
        · rw [if_neg c10] at H
          exact absurd H (by simp)
      · rw [if_neg c9] at H
        exact absurd H (by simp)
    · rw [if_neg c8] at H
      exact absurd H (by simp)
def pack_words.f  : Option (List ByteArray) := some (([(⟨#[115, 110, 111, 119]⟩ : ByteArray), (⟨#[114, 97, 105, 110]⟩ : ByteArray), (⟨#[109, 101, 108, 116]⟩ : ByteArray), (⟨#[102, 114, 111, 115, 116]⟩ : ByteArray), (⟨#[108, 111, 115, 115]⟩ : ByteArray), (⟨#[98, 108, 111, 119, 110]⟩ : ByteArray)] : List ByteArray))
set_option maxHeartbeats 8000000 in
set_option maxRecDepth 100000 in
theorem pack_words.calls  (r : List ByteArray) (w : World) (h : pack_words.f  = some r) :
    Calls Tryz.prog 23 #[] w fun e w' => ∃ v0_ : Value, e = .returned (v0_) ∧ Kd.R Kd.string 9 w' w.heap.size (fun _ => True) v0_ r ∧ Below w.heap.size w w' := by
  have HB := Aside0.mk (Below.refl w.heap.size w)
  have H : (some (([(⟨#[115, 110, 111, 119]⟩ : ByteArray), (⟨#[114, 97, 105, 110]⟩ : ByteArray), (⟨#[109, 101, 108, 116]⟩ : ByteArray), (⟨#[102, 114, 111, 115, 116]⟩ : ByteArray), (⟨#[108, 111, 115, 115]⟩ : ByteArray), (⟨#[98, 108, 111, 119, 110]⟩ : ByteArray)] : List ByteArray))) = some r := h
  clear h
  obtain ⟨y178, hy178⟩ : ∃ y_ : List ByteArray, y_ = (([(⟨#[115, 110, 111, 119]⟩ : ByteArray), (⟨#[114, 97, 105, 110]⟩ : ByteArray), (⟨#[109, 101, 108, 116]⟩ : ByteArray), (⟨#[102, 114, 111, 115, 116]⟩ : ByteArray), (⟨#[108, 111, 115, 115]⟩ : ByteArray), (⟨#[98, 108, 111, 119, 110]⟩ : ByteArray)] : List ByteArray)) := ⟨_, rfl⟩
  replace H : (some y178) = some r := by first | (rw [hy178]; with_reducible exact H) | (have H2_ := (Option.bind_some _ _).symm.trans H; rw [hy178]; with_reducible exact H2_) | (have H2_ := (Option.bind_some _ _).symm.trans H; with_reducible exact H2_) | with_reducible exact H | (rw [hy178]; exact H) | exact H
  have Ny178 := Aside0.mk hy178
  clear hy178
  obtain rfl := Option.some.inj H
  go_enter Tryz.func23, Tryz.ntmps23
  go_wp2_with (first | ((with_reducible refine gate_dst (N := 1) rfl ?_); refine Kd.R_lit Kd.string _ 9 ?hg (N := 1) ?hd (xs := ([(⟨#[115, 110, 111, 119]⟩ : ByteArray), (⟨#[114, 97, 105, 110]⟩ : ByteArray), (⟨#[109, 101, 108, 116]⟩ : ByteArray), (⟨#[102, 114, 111, 115, 116]⟩ : ByteArray), (⟨#[108, 111, 115, 115]⟩ : ByteArray), (⟨#[98, 108, 111, 119, 110]⟩ : ByteArray)] : List ByteArray)) (inner := [.string (⟨#[115, 110, 111, 119]⟩ : ByteArray), .string (⟨#[114, 97, 105, 110]⟩ : ByteArray), .string (⟨#[109, 101, 108, 116]⟩ : ByteArray), .string (⟨#[102, 114, 111, 115, 116]⟩ : ByteArray), .string (⟨#[108, 111, 115, 115]⟩ : ByteArray), .string (⟨#[98, 108, 111, 119, 110]⟩ : ByteArray)]) (ok := fun _ => True) (okp := fun _ => True) ?hr ?hp (fun _ hk => hk) trivial (Below.refl _ _) (Nat.le_refl _) (by simp) ?_; (case hd => rfl); (case hg => rfl); (case hr => first | (go_simp; done) | (go_simp; rfl)); (case hp => exact (Reps.one (show Kd.M Kd.string _ _ _ (⟨#[115, 110, 111, 119]⟩ : ByteArray) [.string (⟨#[115, 110, 111, 119]⟩ : ByteArray)] from rfl) (Reps.one (show Kd.M Kd.string _ _ _ (⟨#[114, 97, 105, 110]⟩ : ByteArray) [.string (⟨#[114, 97, 105, 110]⟩ : ByteArray)] from rfl) (Reps.one (show Kd.M Kd.string _ _ _ (⟨#[109, 101, 108, 116]⟩ : ByteArray) [.string (⟨#[109, 101, 108, 116]⟩ : ByteArray)] from rfl) (Reps.one (show Kd.M Kd.string _ _ _ (⟨#[102, 114, 111, 115, 116]⟩ : ByteArray) [.string (⟨#[102, 114, 111, 115, 116]⟩ : ByteArray)] from rfl) (Reps.one (show Kd.M Kd.string _ _ _ (⟨#[108, 111, 115, 115]⟩ : ByteArray) [.string (⟨#[108, 111, 115, 115]⟩ : ByteArray)] from rfl) (Reps.one (show Kd.M Kd.string _ _ _ (⟨#[98, 108, 111, 119, 110]⟩ : ByteArray) [.string (⟨#[98, 108, 111, 119, 110]⟩ : ByteArray)] from rfl) (Reps.none _ _)))))))); intro v179 w1 ho2 hb hg_ hnew_; clear hg_ hnew_; (first | rw [← Ny178.out] at ho2 | (simp only [Int.reduceToNat] at ho2; rw [← Ny178.out] at ho2)); have n0_ := Aside0.mk (Kd.R_lower ho2 (below_size (by repeat (first | (with_reducible first | exact HB.out | apply below_alloc | apply pw_below_drewN | apply below_drew1) | exact HB.out)))); have n1_ := Aside0.mk (below_step (by repeat (first | (with_reducible first | exact HB.out | apply below_alloc | apply pw_below_drewN | apply below_drew1) | exact HB.out)) hb); clear HB; have HO180 := n0_; have HB := n1_; clear n0_ n1_; clear hb ho2))
  go_ret
  exact ⟨_, by first | rfl | (simp [errW_none, errW_some] <;> rfl) | (simp [*, errW_none, errW_some] <;> rfl), by (with_reducible repeat (first | apply Kd.R_alloc | apply Kd.R_drewN | apply Kd.R_drew)); exact HO180.out, by repeat (first | (with_reducible first | exact HB.out | apply below_alloc | apply pw_below_drewN | apply below_drew1) | exact HB.out)⟩
end Go.Proofs.YtpldcikmlpegpaaGreatDoor.PB
end
section
namespace Go.Proofs.YtpldcikmlpegpaaGreatDoor.PB
open Go.RowKit Go.Proofs.YtpldcikmlpegpaaGreatDoorW.PrintWords Go.Proofs.YtpldcikmlpegpaaGreatDoorW.PrintLast Go.Proofs.YtpldcikmlpegpaaGreatDoorW.PrintMore
theorem rwords_at (w : World) : Calls Tryz.prog 26 #[] w fun e w' => e = .returned (.slice (some ⟨w.heap.size, 0, none⟩) 6 6) ∧ w' = w.alloc (.cells (wordsB.map Value.string).toArray 9 (0, 0)) := by
  go_enter Tryz.func26, Tryz.ntmps26
  go_wp2
  all_goals (go_ret; exact ⟨rfl, rfl⟩)
theorem rwords_at2 (W : World) (j : Int) (h0 : 0 ≤ j) (h1 : j < 6) : Calls Tryz.prog 26 #[] W.drew fun e w' => e = .returned (.slice (some ⟨W.heap.size, 0, none⟩) 6 6) ∧ w'.cell? (⟨W.heap.size, j.toNat, none⟩) = some (.string (wordB (j + 1))) ∧ RowS W j (wordB (j + 1)) w' ∧ Below W.heap.size W.drew w' := by
  refine (rwords_at W.drew).mono ?_
  rintro e w' ⟨rfl, rfl⟩
  have hc : (W.drew.alloc (.cells (wordsB.map Value.string).toArray 9 (0, 0))).cell? (⟨W.heap.size, j.toNat, none⟩) = some (.string (wordB (j + 1))) := by
    have hb := blk_new W.drew (.cells (wordsB.map Value.string).toArray 9 (0, 0))
    have := blk_cell hb j.toNat
    have e : (⟨W.drew.heap.size, j.toNat, none⟩ : Addr) = ⟨W.heap.size, j.toNat, none⟩ := rfl
    rw [e] at this
    rw [this]
    have hj : j = 0 ∨ j = 1 ∨ j = 2 ∨ j = 3 ∨ j = 4 ∨ j = 5 := by omega
    rcases hj with rfl | rfl | rfl | rfl | rfl | rfl <;> rfl
  have hb : Below W.heap.size W.drew (W.drew.alloc (.cells (wordsB.map Value.string).toArray 9 (0, 0))) := (Below.refl W.heap.size W.drew).alloc (show W.heap.size ≤ W.drew.heap.size from Nat.le_refl _) _
  exact ⟨rfl, hc, ⟨(Below.refl _ _).drew.trans hb, fun _ => hc⟩, hb⟩
set_option maxRecDepth 100000 in
set_option maxHeartbeats 1000000 in
theorem rstep_bad (a0_0 a0_1 a0_2 : Int) (w : World) (h : ¬ Plain.StepOk a0_0 a0_1 a0_2) :
    Calls Tryz.prog 7 #[.agg #[.int .i64 a0_0, .int .i64 a0_1, .int .i64 a0_2]] w fun e w' => e = .returned (.tuple #[.string ⟨#[]⟩, .int .i64 21]) ∧ Below w.heap.size w w' := by
  have hu23 := Tryz.underlying23
  have HE : Aside0 (snowlineref02_CheckStep.f 5 a0_0 a0_1 a0_2 = some 21) := ⟨by rw [Plain.rstep_eq, Plain.stepE, if_neg h]⟩
  clear h
  go_enter Tryz.func7, Tryz.ntmps7
  go_upto_region 1 with (fail)
  obtain ⟨B, hB⟩ : ∃ B, w.heap.size = B := ⟨_, rfl⟩
  obtain ⟨W1, hW1⟩ : ∃ W1, w.alloc (.cells #[.int .i64 a0_0, .int .i64 a0_1, .int .i64 a0_2] 23 (0, 0)) = W1 := ⟨_, rfl⟩
  have p0 : W1.heap[B]? = some (.cells #[.int .i64 a0_0, .int .i64 a0_1, .int .i64 a0_2] 23 (0, 0)) := by rw [← hW1, ← hB]; exact blk_new _ _
  have b1 : Below B w W1 := by rw [← hW1, ← hB]; exact (Below.refl _ _).alloc (Nat.le_refl _) _
  rw [hW1, hB]
  have HB := Aside0.mk b1
  have HBq := Aside0.mk hB
  have HS : Aside0 (B ≤ W1.heap.size) := ⟨by have := blk_lt p0; omega⟩
  have q0 : W1.cell? ⟨B, 0, none⟩ = some (.int .i64 a0_0) := (blk_cell p0 0).trans rfl
  have q1 : W1.cell? ⟨B, 1, none⟩ = some (.int .i64 a0_1) := (blk_cell p0 1).trans rfl
  have q2 : W1.cell? ⟨B, 2, none⟩ = some (.int .i64 a0_2) := (blk_cell p0 2).trans rfl
  clear hW1 p0 b1
  go_wp2_with (first | (go_at_call 25; refine (snowlineref02_CheckStep.calls 5 a0_0 a0_1 a0_2 21 _ HE.out).mono ?_; rintro e w2 ⟨rfl, hb⟩; have HB2 := Aside0.mk hb; clear hb q0 q1 q2))
  all_goals (go_ret2; exact ⟨rfl, by rw [HBq.out]; exact HB.out.trans (HB2.out.mono HS.out)⟩)
set_option maxRecDepth 100000 in
set_option maxHeartbeats 1000000 in
theorem rstep_ok (kn : Nat) (a0_0 a0_1 a0_2 : Int) (x n1 n2 : ByteArray) (w : World) (h : Plain.StepOk a0_0 a0_1 a0_2) (hx : wordB a0_0 = x) (h1 : snowlineref02_number.f kn a0_1 = some n1) (h2 : snowlineref02_number.f kn a0_2 = some n2)
    (z1 : (9223372036854775807 < x.size + 1) = False) (z2 : (9223372036854775807 < x.size + 1 + n1.size) = False) (z3 : (9223372036854775807 < x.size + 1 + n1.size + 1) = False) (z4 : (9223372036854775807 < x.size + 1 + n1.size + 1 + n2.size) = False) :
    Calls Tryz.prog 7 #[.agg #[.int .i64 a0_0, .int .i64 a0_1, .int .i64 a0_2]] w fun e w' => e = .returned (.tuple #[.string (if a0_0 = 1 then x ++ spB ++ n1 ++ spB ++ n2 else x ++ spB ++ n1), .int .i64 0]) ∧ Below w.heap.size w w' := by
  have hu23 := Tryz.underlying23
  have HE : Aside0 (snowlineref02_CheckStep.f 5 a0_0 a0_1 a0_2 = some 0) := ⟨by rw [Plain.rstep_eq, Plain.stepE, if_pos h]⟩
  obtain ⟨j, hj⟩ : ∃ j, wrap64 (a0_0 - 1) = j := ⟨_, rfl⟩
  have hjw : (IntKind.i64.wrap (a0_0 - 1)) = j := (i64_w _).trans hj
  have hj1 : j = a0_0 - 1 := by rw [← hj]; exact Plain.wr _ (by have := h.1; omega)
  have j0 : (0 : Int) ≤ j := by have := h.1; omega
  have j6 : j < 6 := by have := h.1; omega
  have HX : Aside0 (wordB (j + 1) = x) := ⟨by rw [← hx, hj1]; congr 1; omega⟩
  have HJ := Aside0.mk j0
  have HJ6 := Aside0.mk j6
  have j0d : decide (0 ≤ j) = true := decide_eq_true j0
  have j6d : decide (j < 6) = true := decide_eq_true j6
  have H1 := Aside0.mk h1
  have H2 := Aside0.mk h2
  obtain ⟨r, hr⟩ : ∃ r, (if a0_0 = 1 then x ++ spB ++ n1 ++ spB ++ n2 else x ++ spB ++ n1) = r := ⟨_, rfl⟩
  rw [hr]
  have HR := Aside0.mk hr
  clear h hx h1 h2 hj hj1 hr
  go_enter Tryz.func7, Tryz.ntmps7
  go_upto_region 1 with (fail)
  obtain ⟨B, hB⟩ : ∃ B, w.heap.size = B := ⟨_, rfl⟩
  obtain ⟨W1, hW1⟩ : ∃ W1, w.alloc (.cells #[.int .i64 a0_0, .int .i64 a0_1, .int .i64 a0_2] 23 (0, 0)) = W1 := ⟨_, rfl⟩
  have p0 : W1.heap[B]? = some (.cells #[.int .i64 a0_0, .int .i64 a0_1, .int .i64 a0_2] 23 (0, 0)) := by rw [← hW1, ← hB]; exact blk_new _ _
  have b1 : Below B w W1 := by rw [← hW1, ← hB]; exact (Below.refl _ _).alloc (Nat.le_refl _) _
  rw [hW1, hB]
  have HBq := Aside0.mk hB
  have K : Aside0 (∀ wX, Below W1.heap.size W1 wX → (wX.cell? ⟨B, 0, none⟩ = some (.int .i64 a0_0) ∧ wX.cell? ⟨B, 1, none⟩ = some (.int .i64 a0_1) ∧ wX.cell? ⟨B, 2, none⟩ = some (.int .i64 a0_2)) ∧ True ∧ Below B w wX) := ⟨fun wX hb => by
    have q0 : W1.cell? ⟨B, 0, none⟩ = some (.int .i64 a0_0) := (blk_cell p0 0).trans rfl
    have q1 : W1.cell? ⟨B, 1, none⟩ = some (.int .i64 a0_1) := (blk_cell p0 1).trans rfl
    have q2 : W1.cell? ⟨B, 2, none⟩ = some (.int .i64 a0_2) := (blk_cell p0 2).trans rfl
    have hbw : Below B w wX := b1.trans (hb.mono (by have := blk_lt p0; omega))
    exact ⟨⟨pw_cell_below hb q0, pw_cell_below hb q1, pw_cell_below hb q2⟩, trivial, hbw⟩⟩
  obtain ⟨q0, q1, q2⟩ := (K.out _ (Below.refl _ _)).1
  clear hW1 p0 b1 hB
  go_upto_if 7 with (first | (go_at_call 25; refine (snowlineref02_CheckStep.calls 5 a0_0 a0_1 a0_2 0 _ HE.out).mono ?_; rintro e w2 ⟨rfl, hb⟩; have HB2 := Aside0.mk hb; clear hb))
  clear q0 q1 q2
  obtain ⟨q0, q1, q2⟩ := (K.out _ HB2.out).1
  go_upto_region 3 with (fail)
  have q0d : w2.drew.cell? ⟨B, 0, none⟩ = some (.int .i64 a0_0) := q0
  have q1d : w2.drew.cell? ⟨B, 1, none⟩ = some (.int .i64 a0_1) := q1
  go_region_with
    (first
      | (go_at_call 26; refine (rwords_at2 w2 j HJ.out HJ6.out).mono ?_; rw [HX.out]; rintro e w5 ⟨rfl, hc5, hr5, hb5⟩; have q0a := pw_cell_below (RowS.below hr5) q0; have q1a := pw_cell_below (RowS.below hr5) q1)
      | (go_at_call 27; refine (snowlineref02_number.calls kn a0_1 n1 _ H1.out).mono ?_; rintro e w6 ⟨rfl, hb6⟩; obtain ⟨hc6, hr6⟩ := row_keep (W := w2) (j := j) (x := x) (by assumption) (by assumption) hb6; have q0b := pw_cell_below (RowS.below hr6) q0; have q1b := pw_cell_below (RowS.below hr6) q1))
  all_goals
    have HB6 := Aside0.mk (below_step HB2.out (RowS.below hr6))
    clear q0 q1 q2 hc6 hr6 hb6
    obtain ⟨q0, q1, q2⟩ := (K.out _ HB6.out).1
    by_cases hk : a0_0 = 1
    · have hk1 : (a0_0 == 1) = true := by simp [hk]
      have HK := Aside0.mk hk
      clear hk
      go_wp2_with (first | (go_at_call 27; refine (snowlineref02_number.calls kn a0_2 n2 _ H2.out).mono ?_; rintro e w7 ⟨rfl, hb7⟩; have HB7 := Aside0.mk (below_step HB6.out hb7); clear hb7))
      all_goals (go_ret2; exact ⟨by rw [← HR.out, if_pos HK.out]; rfl, by rw [HBq.out]; exact (K.out _ HB7.out).2.2⟩)
    · have hk1 : (a0_0 == 1) = false := by simp [hk]
      have HK := Aside0.mk hk
      clear hk
      go_wp2
      all_goals (go_ret2; exact ⟨by rw [← HR.out, if_neg HK.out]; rfl, by rw [HBq.out]; exact (K.out _ HB6.out).2.2⟩)
end Go.Proofs.YtpldcikmlpegpaaGreatDoor.PB
end
section
namespace Go.Proofs.YtpldcikmlpegpaaGreatDoor.Spl
open Go Go.Lib
def spl (c : UInt8) : List UInt8 → List (List UInt8)
  | [] => [[]]
  | b :: l => if b = c then [] :: spl c l else (b :: (spl c l).headD []) :: (spl c l).tail
theorem index_cons (b c : UInt8) (l : List UInt8) : index (b :: l) [c] = if b = c then 0 else if index l [c] = -1 then -1 else index l [c] + 1 := by
  by_cases h : b = c
  · subst h
    rw [if_pos rfl, index]
    simp [List.isPrefixOf]
  · have hp : ([c] : List UInt8).isPrefixOf (b :: l) = false := by simp [List.isPrefixOf, Ne.symm h]
    rw [if_neg h, index, hp]
    simp
theorem splitK_eq (c : UInt8) (k : Nat) (l : List UInt8) : splitK [c] 0 (k + 1) (c :: l) = [] :: splitK [c] 0 k l := by
  rw [splitK, index_cons, if_pos rfl]
  simp
theorem splitK_ne (b c : UInt8) (h : b ≠ c) (k : Nat) (l : List UInt8) : splitK [c] 0 k (b :: l) = (b :: (splitK [c] 0 k l).headD []) :: (splitK [c] 0 k l).tail := by
  cases k with
  | zero => rfl
  | succ k =>
    have hge := index_ge l [c]
    rw [splitK, splitK, index_cons, if_neg h]
    by_cases hm : index l [c] = -1
    · simp [hm]
    · rw [if_neg hm]
      obtain ⟨j, hj⟩ : ∃ j : Nat, index l [c] = j := ⟨(index l [c]).toNat, by omega⟩
      rw [hj]
      have e1 : (((j : Int) + 1) == -1) = false := by rw [beq_eq_false_iff_ne]; omega
      have e2 : ((j : Int) == -1) = false := by rw [beq_eq_false_iff_ne]; omega
      rw [e1, e2]
      have e3 : ((j : Int) + 1).toNat = j + 1 := by omega
      simp [e3]
theorem splitK_spl (c : UInt8) : ∀ l : List UInt8, splitK [c] 0 (count l [c]) l = spl c l
  | [] => by rw [count_miss (by simp [index])]; rfl
  | b :: l => by
    by_cases h : b = c
    · subst h
      rw [count_cons_eq, Nat.add_comm, splitK_eq, splitK_spl b l, spl, if_pos rfl]
    · rw [count_cons_ne b c l h, splitK_ne b c h, splitK_spl c l, spl, if_neg h]
theorem split_spl (s : ByteArray) (c : UInt8) : (splitB ⟨#[c]⟩ 0 (countB s ⟨#[c]⟩) s).map (·.data.toList) = spl c s.data.toList := by
  rw [splitB_data]
  exact splitK_spl c _
theorem spl_ne (c : UInt8) (l : List UInt8) : spl c l ≠ [] := by
  cases l with
  | nil => simp [spl]
  | cons b l => unfold spl; split <;> simp
theorem join_spl (c : UInt8) : ∀ l : List UInt8, (spl c l).headD [] ++ joinTail [c] (spl c l).tail = l
  | [] => rfl
  | b :: l => by
    have ih := join_spl c l
    unfold spl
    by_cases h : b = c
    · subst h
      rw [if_pos rfl]
      obtain ⟨x, r, hx⟩ := List.exists_cons_of_ne_nil (spl_ne b l)
      rw [hx] at ih ⊢
      simp only [List.headD_cons, List.tail_cons, joinTail, List.map_cons, List.flatten_cons, List.nil_append, List.cons_append] at ih ⊢
      rw [ih]
    · rw [if_neg h]
      simp only [List.headD_cons, List.tail_cons, List.cons_append]
      rw [ih]
theorem spl_free (c : UInt8) : ∀ x : List UInt8, c ∉ x → spl c x = [x]
  | [], _ => rfl
  | b :: x, h => by
    have h1 : b ≠ c := fun e => h (by rw [e]; exact List.mem_cons_self)
    rw [spl, if_neg h1, spl_free c x (fun hm => h (List.mem_cons_of_mem _ hm))]
    rfl
theorem spl_free_cons (c : UInt8) (l : List UInt8) : ∀ x : List UInt8, c ∉ x → spl c (x ++ c :: l) = x :: spl c l
  | [], _ => by rw [List.nil_append, spl, if_pos rfl]
  | b :: x, h => by
    have h1 : b ≠ c := fun e => h (by rw [e]; exact List.mem_cons_self)
    rw [List.cons_append, spl, if_neg h1, spl_free_cons c l x (fun hm => h (List.mem_cons_of_mem _ hm))]
    rfl
theorem spl_join (c : UInt8) : ∀ (r : List (List UInt8)) (x : List UInt8), c ∉ x → (∀ y ∈ r, c ∉ y) → spl c (x ++ joinTail [c] r) = x :: r
  | [], x, hx, _ => by
    rw [joinTail]
    simpa using spl_free c x hx
  | y :: r, x, hx, hr => by
    have ih := spl_join c r y (hr y List.mem_cons_self) (fun z hz => hr z (List.mem_cons_of_mem _ hz))
    have e : joinTail [c] (y :: r) = c :: (y ++ joinTail [c] r) := by simp [joinTail]
    rw [e, spl_free_cons c _ x hx, ih]
def isDig (b : UInt8) : Prop := 48 ≤ b.toNat ∧ b.toNat ≤ 57
theorem dig_of (n : Nat) (h : n < 10) : isDig (UInt8.ofNat (48 + n)) ∧ (UInt8.ofNat (48 + n)).toNat = 48 + n := by
  have : (UInt8.ofNat (48 + n)).toNat = 48 + n := by
    rw [UInt8.toNat_ofNat']
    omega
  exact ⟨⟨by omega, by omega⟩, this⟩
theorem dec_big (u : Nat) (h : ¬ u < 10) : decDigits u = decDigits (u / 10) ++ [UInt8.ofNat (48 + u % 10)] := by rw [decDigits, dif_neg h]
theorem dec_dig : ∀ (u : Nat), ∀ b ∈ decDigits u, isDig b := by
  intro u
  induction u using Nat.strongRecOn with
  | _ u ih =>
    intro b hb
    by_cases h : u < 10
    · rw [decDigits_one h, List.mem_singleton] at hb
      subst hb
      exact (dig_of u h).1
    · rw [dec_big u h] at hb
      rcases List.mem_append.1 hb with hb | hb
      · exact ih _ (by omega) b hb
      · rw [List.mem_singleton] at hb
        subst hb
        exact (dig_of _ (by omega)).1
theorem dec_ne (u : Nat) : decDigits u ≠ [] := by
  by_cases h : u < 10
  · rw [decDigits_one h]; simp
  · rw [dec_big u h]; simp
theorem dec_len : ∀ (k u : Nat), u < 10 ^ (k + 1) → (decDigits u).length ≤ k + 1
  | 0, u, h => by rw [decDigits_one (by simpa using h)]; simp
  | k + 1, u, h => by
    by_cases h1 : u < 10
    · rw [decDigits_one h1]; simp
    · rw [dec_big u h1, List.length_append]
      have := dec_len k (u / 10) (by rw [Nat.pow_succ] at h; omega)
      simp only [List.length_singleton]
      omega
theorem itoa_nat (n : Int) (h : 0 ≤ n) : itoa n = decDigits n.toNat := by rw [itoa, if_neg (by omega)]
theorem parse_snoc (d : Nat) (hd : d < 10) : ∀ (l : List UInt8) (a v : Nat), parseUint10 a l = .ok v → v < 1000000000000000000 → parseUint10 a (l ++ [UInt8.ofNat (48 + d)]) = .ok (v * 10 + d)
  | [], a, v, h, hv => by
    simp only [parseUint10, NumEnd.ok.injEq] at h
    subst h
    obtain ⟨⟨h1, h2⟩, h3⟩ := dig_of d hd
    rw [List.nil_append, parseUint10, if_pos ⟨h1, h2⟩, if_neg (by omega), if_neg (by omega), parseUint10, h3]
    congr 1
    omega
  | c :: l, a, v, h, hv => by
    rw [parseUint10] at h
    rw [List.cons_append, parseUint10]
    split at h
    · rw [if_pos ‹_›]
      split at h
      · cases h
      · rw [if_neg ‹_›]
        split at h
        · cases h
        · rw [if_neg ‹_›]
          exact parse_snoc d hd l _ v h hv
    · cases h
theorem parse_dec (u : Nat) (h : u < 1000000000000000000) : parseUint10 0 (decDigits u) = .ok u := by
  induction u using Nat.strongRecOn with
  | _ u ih =>
    by_cases h1 : u < 10
    · have := parse_snoc u h1 [] 0 0 rfl (by omega)
      rw [decDigits_one h1]
      simpa using this
    · have := parse_snoc (u % 10) (by omega) _ 0 (u / 10) (ih (u / 10) (by omega) (by omega)) (by omega)
      rw [dec_big u h1, this]
      congr 1
      omega
theorem atoi_dec (n : Int) (h0 : 0 ≤ n) (h1 : n ≤ 65536) : atoiAll (itoa n) = .ok n := by
  rw [itoa_nat n h0]
  have hp := parse_dec n.toNat (by omega)
  have hd := dec_dig n.toNat
  obtain ⟨c, r, hc⟩ := List.exists_cons_of_ne_nil (dec_ne n.toNat)
  rw [hc] at hp hd ⊢
  have hcd := hd c List.mem_cons_self
  unfold isDig at hcd
  rw [atoiAll_plain c r (by omega) (by omega), parseMag, if_neg (by simp), hp, signless]
  rw [if_neg (by omega)]
  congr 1
  omega
open Go.Proofs.YtpldcikmlpegpaaGreatDoor.PB
def bl (s : ByteArray) : List UInt8 := s.data.toList
theorem bl_inj {a b : ByteArray} (h : bl a = bl b) : a = b := by
  cases a; cases b
  unfold bl at h
  congr
  exact Array.toList_inj.1 h
theorem bl_append (a b : ByteArray) : bl (a ++ b) = bl a ++ bl b := by
  unfold bl
  simp
theorem bl_itoa (n : Int) : bl (itoaB n) = itoa n := rfl
theorem bl_size (s : ByteArray) : (bl s).length = s.size := Array.length_toList
theorem number_itoa (n : Int) (h0 : 0 ≤ n) (h1 : n ≤ 65536) : numberV (itoaB n) = (n, true) := by
  unfold numberV
  rw [show (itoaB n).data.toList = itoa n from rfl, atoi_dec n h0 h1]
  simp
theorem number_sound {s : ByteArray} (h : (numberV s).2 = true) : itoaB (numberV s).1 = s := by
  unfold numberV at h ⊢
  split at h
  · exact of_decide_eq_true h
  · cases h
  · cases h
theorem itoa_free (n : Int) (h0 : 0 ≤ n) (c : UInt8) (hc : ¬ isDig c) : c ∉ itoa n := by
  rw [itoa_nat n h0]
  exact fun hm => hc (dec_dig _ c hm)
theorem itoa_len (n : Int) (h0 : 0 ≤ n) (h1 : n ≤ 65536) : (itoa n).length ≤ 5 := by
  rw [itoa_nat n h0]
  exact dec_len 4 _ (by omega)
end Go.Proofs.YtpldcikmlpegpaaGreatDoor.Spl
end
section
namespace Go.Proofs.YtpldcikmlpegpaaGreatDoor.Spl
open Go Go.Lib Go.RowKit Go.Proofs.YtpldcikmlpegpaaGreatDoor.PB Go.Proofs.YtpldcikmlpegpaaGreatDoor.Plain
theorem piece_fin : ∀ i : Fin 10, ((⟨#[48, 49, 50, 51, 52, 53, 54, 55, 56, 57]⟩ : ByteArray).extract i.val (i.val + 1)).data.toList = [UInt8.ofNat (48 + i.val)] := by decide +kernel
theorem piece (n : Nat) (h : n < 10) : bl ((⟨#[48, 49, 50, 51, 52, 53, 54, 55, 56, 57]⟩ : ByteArray).extract n (n + 1)) = [UInt8.ofNat (48 + n)] := piece_fin ⟨n, h⟩
theorem num_small (n : Int) (k : Nat) (h0 : 0 ≤ n) (hlt : n < 10) : ∃ r, snowlineref02_number.f (k + 1) n = some r ∧ bl r = decDigits n.toNat ∧ r.size ≤ 0 + 1 := by
  have hp := piece n.toNat (by omega)
  refine ⟨(⟨#[48, 49, 50, 51, 52, 53, 54, 55, 56, 57]⟩ : ByteArray).extract n.toNat (n.toNat + 1), ?_, ?_, ?_⟩
  · rw [snowlineref02_number.f, if_pos hlt, if_pos h0, wr (n + 1) (by omega), if_pos (by omega), if_pos (by omega), show (n + 1).toNat = n.toNat + 1 by omega]
  · rw [hp, decDigits_one (by omega)]
  · rw [← bl_size, hp]
    simp
theorem number_dec : ∀ (j : Nat) (n : Int) (k : Nat), 0 ≤ n → n < 10 ^ (j + 1) → j < k → j ≤ 5 → ∃ r, snowlineref02_number.f k n = some r ∧ bl r = decDigits n.toNat ∧ r.size ≤ j + 1 := by
  intro j
  induction j with
  | zero =>
    intro n k h0 h1 hk _
    obtain ⟨k, rfl⟩ : ∃ m, k = m + 1 := ⟨k - 1, by omega⟩
    have hlt : n < 10 := by simpa using h1
    exact num_small n k h0 hlt
  | succ j ih =>
    intro n k h0 h1 hk hj
    obtain ⟨k, rfl⟩ : ∃ m, k = m + 1 := ⟨k - 1, by omega⟩
    by_cases hlt : n < 10
    · obtain ⟨r, h1, h2, h3⟩ := num_small n k h0 hlt
      exact ⟨r, h1, h2, by omega⟩
    · have hmax : n < 10000000 := by
        have : (10 : Int) ^ (j + 1 + 1) ≤ 10 ^ 7 := by
          have hp : j + 1 + 1 ≤ 7 := by omega
          exact_mod_cast Nat.pow_le_pow_right (n := 10) (by omega) hp
        omega
      have hd : wrap64 (Int.tdiv n 10) = n / 10 := by rw [Int.tdiv_eq_ediv_of_nonneg h0, wr _ (by omega)]
      have hm : Int.tmod n 10 = n % 10 := by rw [Int.tmod_eq_emod_of_nonneg h0]
      have hpow : (10 : Int) ^ (j + 1 + 1) = 10 ^ (j + 1) * 10 := by rw [Int.pow_succ]
      obtain ⟨r, hr, hb, hs⟩ := ih (n / 10) k (by omega) (by omega) (by omega) (by omega)
      have hp := piece (n % 10).toNat (by omega)
      have hps : ((⟨#[48, 49, 50, 51, 52, 53, 54, 55, 56, 57]⟩ : ByteArray).extract (n % 10).toNat ((n % 10).toNat + 1)).size = 1 := by rw [← bl_size, hp]; rfl
      have e1 : (n % 10 + 1).toNat = (n % 10).toNat + 1 := by omega
      refine ⟨r ++ (⟨#[48, 49, 50, 51, 52, 53, 54, 55, 56, 57]⟩ : ByteArray).extract (n % 10).toNat ((n % 10).toNat + 1), ?_, ?_, ?_⟩
      · rw [snowlineref02_number.f, if_neg hlt, hd, hr, hm]
        simp only [Option.bind_some]
        rw [wr (n % 10 + 1) (by omega), if_pos (by omega), if_pos (by omega), if_pos (by omega), e1, hps, if_pos (by omega)]
      · rw [bl_append, hb, hp, dec_big n.toNat (by omega)]
        congr 2
        · congr 1
          omega
        · congr 2
          omega
      · rw [ByteArray.size_append, hps]
        omega
theorem number_eq (k : Nat) (n : Int) (h0 : 0 ≤ n) (h1 : n ≤ 65536) (hk : 6 ≤ k) : snowlineref02_number.f k n = some (itoaB n) := by
  obtain ⟨r, hr, hb, _⟩ := number_dec 4 n k h0 (by omega) (by omega) (by omega)
  rw [hr]
  congr 1
  apply bl_inj
  rw [hb, bl_itoa, itoa_nat n h0]
theorem itoa_eq (n : Int) (h0 : 0 ≤ n) (h1 : n ≤ 65536) : strconv_Itoa.f n = some (itoaB n) := if_pos ⟨by omega, by omega⟩
theorem itoaB_size (n : Int) (h0 : 0 ≤ n) (h1 : n ≤ 65536) : (itoaB n).size ≤ 5 := by
  rw [← bl_size, bl_itoa]
  exact itoa_len n h0 h1
end Go.Proofs.YtpldcikmlpegpaaGreatDoor.Spl
end
section
namespace Go.Proofs.YtpldcikmlpegpaaGreatDoor.PB
open Go.RowKit Go.Proofs.YtpldcikmlpegpaaGreatDoorW.PrintWords Go.Proofs.YtpldcikmlpegpaaGreatDoorW.PrintLast Go.Proofs.YtpldcikmlpegpaaGreatDoorW.PrintMore
def snowlineref02_PrintStep.f (a0_0 a0_1 a0_2 : Int) : Option (ByteArray × Int) := some (if Plain.StepOk a0_0 a0_1 a0_2 then (stepT a0_0 a0_1 a0_2, 0) else (⟨#[]⟩, 21))
theorem stepok_bounds {k m c : Int} (h : Plain.StepOk k m c) : (1 ≤ k ∧ k ≤ 6) ∧ (0 ≤ m ∧ m ≤ 65536) ∧ 0 ≤ c ∧ c ≤ 65536 := by
  obtain ⟨h1, h2, h3⟩ := h
  refine ⟨h1, h2, ?_⟩
  split at h3 <;> omega
theorem word_size (k : Int) (h : 1 ≤ k ∧ k ≤ 6) : (wordB k).size ≤ 5 := by
  have hk : k = 1 ∨ k = 2 ∨ k = 3 ∨ k = 4 ∨ k = 5 ∨ k = 6 := by omega
  rcases hk with rfl | rfl | rfl | rfl | rfl | rfl <;> decide
theorem pack_PrintStep.calls (a0_0 a0_1 a0_2 : Int) (r1 : ByteArray) (r2 : Int) (w : World) (hG : Glob w) (h : pack_PrintStep.f a0_0 a0_1 a0_2 = some (r1, r2)) :
    Calls Tryz.prog 6 #[.agg #[.int .i64 a0_0, .int .i64 a0_1, .int .i64 a0_2]] w fun e w' => e = .returned (.tuple #[.string r1, .int .i64 r2]) ∧ Below w.heap.size w w' := by
  replace h := Option.some.inj h
  by_cases hs : Plain.StepOk a0_0 a0_1 a0_2
  · rw [if_pos hs] at h
    injection h with h1 h2
    subst h1 h2
    obtain ⟨b1, b2, b3⟩ := stepok_bounds hs
    have s1 := word_size a0_0 b1
    have s2 := Spl.itoaB_size a0_1 b2.1 b2.2
    have s3 := Spl.itoaB_size a0_2 b3.1 b3.2
    refine (pstep_ok a0_0 a0_1 a0_2 (wordB a0_0) (itoaB a0_1) (itoaB a0_2) w hG hs rfl (Spl.itoa_eq _ b2.1 b2.2) (Spl.itoa_eq _ b3.1 b3.2) (eq_false (by omega)) (eq_false (by omega)) (eq_false (by omega)) (eq_false (by omega))).mono ?_
    rintro e w' ⟨rfl, hb⟩
    refine ⟨?_, hb⟩
    unfold stepT
    split
    · rw [ByteArray.append_assoc (a := wordB a0_0 ++ spB ++ itoaB a0_1)]
    · rfl
  · rw [if_neg hs] at h
    injection h with h1 h2
    subst h1 h2
    exact pstep_bad a0_0 a0_1 a0_2 w hs
theorem snowlineref02_PrintStep.calls (a0_0 a0_1 a0_2 : Int) (r1 : ByteArray) (r2 : Int) (w : World) (h : snowlineref02_PrintStep.f a0_0 a0_1 a0_2 = some (r1, r2)) :
    Calls Tryz.prog 7 #[.agg #[.int .i64 a0_0, .int .i64 a0_1, .int .i64 a0_2]] w fun e w' => e = .returned (.tuple #[.string r1, .int .i64 r2]) ∧ Below w.heap.size w w' := by
  replace h := Option.some.inj h
  by_cases hs : Plain.StepOk a0_0 a0_1 a0_2
  · rw [if_pos hs] at h
    injection h with h1 h2
    subst h1 h2
    obtain ⟨b1, b2, b3⟩ := stepok_bounds hs
    have s1 := word_size a0_0 b1
    have s2 := Spl.itoaB_size a0_1 b2.1 b2.2
    have s3 := Spl.itoaB_size a0_2 b3.1 b3.2
    exact rstep_ok 6 a0_0 a0_1 a0_2 (wordB a0_0) (itoaB a0_1) (itoaB a0_2) w hs rfl (Spl.number_eq 6 _ b2.1 b2.2 (by omega)) (Spl.number_eq 6 _ b3.1 b3.2 (by omega)) (eq_false (by omega)) (eq_false (by omega)) (eq_false (by omega)) (eq_false (by omega))
  · rw [if_neg hs] at h
    injection h with h1 h2
    subst h1 h2
    exact rstep_bad a0_0 a0_1 a0_2 w hs
end Go.Proofs.YtpldcikmlpegpaaGreatDoor.PB
end
section
namespace Go.Proofs.YtpldcikmlpegpaaGreatDoor.PB
open Go.RowKit Go.Proofs.YtpldcikmlpegpaaGreatDoorW.PrintWords Go.Proofs.YtpldcikmlpegpaaGreatDoorW.PrintLast Go.Proofs.YtpldcikmlpegpaaGreatDoorW.PrintMore
attribute [local go_sem] max2_int min2_int max_two min_two max_three min_three max_four min_four   -- for this text's walks alone
set_option linter.unusedVariables false
set_option linter.unusedSimpArgs false
def pack_Water.f (k : Nat) (l0_0 : List (S47)) : Option (Int × Int) := (pack_Check.f k l0_0).bind fun t125 => (if t125 = 0 then ((pack_sums.f k l0_0).bind fun bt126 => (some (bt126.1, 0))) else (some (0, t125)))
set_option maxHeartbeats 8000000 in
set_option maxRecDepth 100000 in
theorem pack_Water.calls (k : Nat) (A0_0 : Option Addr) (c0_0 : Nat) (l0_0 : List (S47)) (r1 : Int) (r2 : Int) (w : World) (hr0_0 : Kd.C k47 w A0_0 l0_0.length l0_0) (hc0_0 : l0_0.length ≤ c0_0) (h : pack_Water.f k l0_0 = some (r1, r2)) :
    Calls Tryz.prog 16 #[.agg #[.slice A0_0 l0_0.length c0_0]] w fun e w' => e = .returned (.tuple #[.int .i64 r1, .int .i64 r2]) ∧ Below w.heap.size w w' := by
  have hu26 := Tryz.underlying26
  have HR0_0 := Aside0.mk hr0_0
  have HC0_0 := Aside0.mk hc0_0
  clear hr0_0 hc0_0
  have HB := Aside0.mk (Below.refl w.heap.size w)
  have H : ((pack_Check.f k l0_0).bind fun t125 => (if t125 = 0 then ((pack_sums.f k l0_0).bind fun bt126 => (some (bt126.1, 0))) else (some (0, t125)))) = some (r1, r2) := h
  clear h
  replace H := Option.bind_eq_some_iff.mp H
  obtain ⟨t125, A20, H⟩ := H
  replace H : (if t125 = 0 then ((pack_sums.f k l0_0).bind fun bt126 => (some (bt126.1, 0))) else (some (0, t125))) = some (r1, r2) := H
  have A2 := Aside0.mk A20
  clear A20
  by_cases c3 : t125 = 0
  · rw [if_pos c3] at H
    have c3b0 : (t125 == 0) = true := beq_iff_eq.mpr c3
    have c3b1 : (t125 != 0) = false := bne_eq_false_iff_eq.mpr c3
    clear c3
    replace H := Option.bind_eq_some_iff.mp H
    obtain ⟨⟨t126, t127⟩, A40, H⟩ := H
    replace H : (some (t126, 0)) = some (r1, r2) := H
    have A4 := Aside0.mk A40
    clear A40
    simp only [Option.some.injEq, Prod.mk.injEq] at H
    obtain ⟨rfl, rfl⟩ := H
    go_enter Tryz.func16, Tryz.ntmps16
    go_wp2_with (first | ((with_reducible refine gate_dst (N := 1) rfl ?_); refine box_event ?hg (N := 1) ?hd (cs := #[.slice A0_0 l0_0.length c0_0]) (t := 26) ?hr ?_; (case hd => rfl); (case hg => rfl); (case hr => first | (go_simp; done) | (go_simp; rfl)); intro gb124 hg w5 hbox hb; have n0_ := Aside0.mk (below_step (by repeat (first | (with_reducible first | exact HB.out | apply below_alloc | apply pw_below_drewN | apply below_drew1) | exact HB.out)) hb); have n1_ := Aside0.mk (hbox); have n2_ := Aside0.mk ((by rw [hg]; exact (below_size (by repeat (first | (with_reducible first | exact HB.out | apply below_alloc | apply pw_below_drewN | apply below_drew1) | exact HB.out))) : w.heap.size ≤ gb124)); have n3_ := Aside0.mk ((by rw [hg]; exact (below_size (by repeat (first | (with_reducible first | exact HB.out | apply below_alloc | apply pw_below_drewN | apply below_drew1) | exact HB.out))) : w.heap.size ≤ gb124)); clear HB; have HB := n0_; have BK124 := n1_; have GW124 := n2_; have GE124 := n3_; clear n0_ n1_ n2_ n3_; clear hb hbox hg; have hcz6_0 : w5.cell? ⟨gb124, 0, none⟩ = some (.slice A0_0 l0_0.length c0_0) := (blk_cell BK124.out 0).trans rfl; have hfz6_0 := blk_frozen BK124.out 0) | ((with_reducible refine gate_callee (f := 32) rfl ?_); refine goesL_ (some 8) rfl rfl Tryz.func32 (by kernel_rfl) rfl #[.agg #[.slice A0_0 l0_0.length c0_0]] rfl (by (try simp only [List.map_toArray, List.map_cons, List.map_nil]); first | done | rfl | (simp only [List.length_drop, List.length_take]; rfl)) ?_; (with_reducible refine (pack_Check.calls k _ _ l0_0 t125 _ ?side1 ?side2 A2.out).mono ?_); (case side1 => repeat (first | exact (Kd.C_below HR0_0.out HB.out) | (with_reducible refine Kd.C_alloc ?_ _) | (with_reducible refine Kd.C_drewN ?_ _) | (with_reducible refine Kd.C_drew ?_))); (case side2 => exact HC0_0.out); rintro e w7 ⟨rfl, hb⟩; refine ⟨_, rfl, ?_⟩; have n0_ := Aside0.mk (blk_below (g := gb124) (o := .cells #[.slice A0_0 l0_0.length c0_0] 26 (0, 0)) (by (with_reducible repeat (first | refine blk_drewN ?_ _ | refine blk_drew ?_ | refine blk_alloc ?_ _)); exact BK124.out) hb); have n1_ := Aside0.mk (below_step (by repeat (first | (with_reducible first | exact HB.out | apply below_alloc | apply pw_below_drewN | apply below_drew1 | refine below_set ?_ GE124.out) | exact HB.out)) hb); clear BK124; clear HB; have BK124 := n0_; have HB := n1_; clear n0_ n1_; (try clear hb); (try clear hb2); (try clear hk); (try clear hi); have hcz8_0 : w7.cell? ⟨gb124, 0, none⟩ = some (.slice A0_0 l0_0.length c0_0) := (blk_cell BK124.out 0).trans rfl; have hfz8_0 := blk_frozen BK124.out 0) | ((with_reducible refine gate_callee (f := 35) rfl ?_); refine goesL_ (some 15) rfl rfl Tryz.func35 (by kernel_rfl) rfl #[.slice A0_0 l0_0.length c0_0] rfl (by (try simp only [List.map_toArray, List.map_cons, List.map_nil]); first | done | rfl | (simp only [List.length_drop, List.length_take]; rfl)) ?_; (with_reducible refine (pack_sums.calls k _ _ l0_0 t126 t127 _ ?side1 ?side2 A4.out).mono ?_); (case side1 => repeat (first | exact (Kd.C_below HR0_0.out HB.out) | (with_reducible refine Kd.C_alloc ?_ _) | (with_reducible refine Kd.C_drewN ?_ _) | (with_reducible refine Kd.C_drew ?_))); (case side2 => exact HC0_0.out); rintro e w9 ⟨rfl, hb⟩; refine ⟨_, rfl, ?_⟩; have n0_ := Aside0.mk (blk_below (g := gb124) (o := .cells #[.slice A0_0 l0_0.length c0_0] 26 (0, 0)) (by (with_reducible repeat (first | refine blk_drewN ?_ _ | refine blk_drew ?_ | refine blk_alloc ?_ _)); exact BK124.out) hb); have n1_ := Aside0.mk (below_step (by repeat (first | (with_reducible first | exact HB.out | apply below_alloc | apply pw_below_drewN | apply below_drew1 | refine below_set ?_ GE124.out) | exact HB.out)) hb); clear BK124; clear HB; have BK124 := n0_; have HB := n1_; clear n0_ n1_; (try clear hb); (try clear hb2); (try clear hk); (try clear hi)))
    go_ret2
    exact ⟨by first | rfl | (simp [errW_none, errW_some] <;> rfl) | (simp [*, errW_none, errW_some] <;> rfl), by repeat (first | (with_reducible first | exact HB.out | apply below_alloc | apply pw_below_drewN | apply below_drew1 | refine below_set ?_ GE124.out) | exact HB.out)⟩
  · rw [if_neg c3] at H
    have c3b0 : (t125 == 0) = false := beq_eq_false_iff_ne.mpr c3
    have c3b1 : (t125 != 0) = true := bne_iff_ne.mpr c3
    simp only [Option.some.injEq, Prod.mk.injEq] at H
    obtain ⟨rfl, rfl⟩ := H
    go_enter Tryz.func16, Tryz.ntmps16
    go_wp2_with (first | ((with_reducible refine gate_dst (N := 1) rfl ?_); refine box_event ?hg (N := 1) ?hd (cs := #[.slice A0_0 l0_0.length c0_0]) (t := 26) ?hr ?_; (case hd => rfl); (case hg => rfl); (case hr => first | (go_simp; done) | (go_simp; rfl)); intro gb124 hg w10 hbox hb; have n0_ := Aside0.mk (below_step (by repeat (first | (with_reducible first | exact HB.out | apply below_alloc | apply pw_below_drewN | apply below_drew1) | exact HB.out)) hb); have n1_ := Aside0.mk (hbox); have n2_ := Aside0.mk ((by rw [hg]; exact (below_size (by repeat (first | (with_reducible first | exact HB.out | apply below_alloc | apply pw_below_drewN | apply below_drew1) | exact HB.out))) : w.heap.size ≤ gb124)); have n3_ := Aside0.mk ((by rw [hg]; exact (below_size (by repeat (first | (with_reducible first | exact HB.out | apply below_alloc | apply pw_below_drewN | apply below_drew1) | exact HB.out))) : w.heap.size ≤ gb124)); clear HB; have HB := n0_; have BK124 := n1_; have GW124 := n2_; have GE124 := n3_; clear n0_ n1_ n2_ n3_; clear hb hbox hg; have hcz11_0 : w10.cell? ⟨gb124, 0, none⟩ = some (.slice A0_0 l0_0.length c0_0) := (blk_cell BK124.out 0).trans rfl; have hfz11_0 := blk_frozen BK124.out 0) | ((with_reducible refine gate_callee (f := 32) rfl ?_); refine goesL_ (some 8) rfl rfl Tryz.func32 (by kernel_rfl) rfl #[.agg #[.slice A0_0 l0_0.length c0_0]] rfl (by (try simp only [List.map_toArray, List.map_cons, List.map_nil]); first | done | rfl | (simp only [List.length_drop, List.length_take]; rfl)) ?_; (with_reducible refine (pack_Check.calls k _ _ l0_0 t125 _ ?side1 ?side2 A2.out).mono ?_); (case side1 => repeat (first | exact (Kd.C_below HR0_0.out HB.out) | (with_reducible refine Kd.C_alloc ?_ _) | (with_reducible refine Kd.C_drewN ?_ _) | (with_reducible refine Kd.C_drew ?_))); (case side2 => exact HC0_0.out); rintro e w12 ⟨rfl, hb⟩; refine ⟨_, rfl, ?_⟩; have n0_ := Aside0.mk (blk_below (g := gb124) (o := .cells #[.slice A0_0 l0_0.length c0_0] 26 (0, 0)) (by (with_reducible repeat (first | refine blk_drewN ?_ _ | refine blk_drew ?_ | refine blk_alloc ?_ _)); exact BK124.out) hb); have n1_ := Aside0.mk (below_step (by repeat (first | (with_reducible first | exact HB.out | apply below_alloc | apply pw_below_drewN | apply below_drew1 | refine below_set ?_ GE124.out) | exact HB.out)) hb); clear BK124; clear HB; have BK124 := n0_; have HB := n1_; clear n0_ n1_; (try clear hb); (try clear hb2); (try clear hk); (try clear hi)))
    go_ret2
    exact ⟨by first | rfl | (simp [errW_none, errW_some] <;> rfl) | (simp [*, errW_none, errW_some] <;> rfl), by repeat (first | (with_reducible first | exact HB.out | apply below_alloc | apply pw_below_drewN | apply below_drew1 | refine below_set ?_ GE124.out) | exact HB.out)⟩
def pack_Ready.l0 : Nat → Int → List (S47) → Int → Int → Option (Int × Int)
  | 0, _, _, _, _ => none
  | k + 1, x5, x14, x15, x16 => if x16 < x15 then (if 0 ≤ x16 then (if x16 < (x14.length : Int) then ((pack_hold.f (wrap64 (((rd_T47 x14 x16).f0) + ((rd_T47 x14 x16).f2))) ((rd_T47 x14 x16).f1) ((rd_T47 x14 x16).f2)).bind fun t132 => (pack_Ready.l0 k (wrap64 ((wrap64 (x5 + (wrap64 (((rd_T47 x14 x16).f2) - ((rd_T47 x14 x16).f1))))) + t132)) x14 x15 (wrap64 (x16 + 1)))) else (none)) else (none)) else (some (x5, 0))
def pack_Ready.f (k : Nat) (l0_0 : List (S47)) : Option (Int × Int) := (pack_Check.f k l0_0).bind fun t129 => (if t129 = 0 then (pack_Ready.l0 k 0 l0_0 (l0_0.length : Int) 0) else (some (0, t129)))
set_option maxHeartbeats 8000000 in
set_option maxRecDepth 100000 in
theorem pack_Ready.calls (k : Nat) (A0_0 : Option Addr) (c0_0 : Nat) (l0_0 : List (S47)) (r1 : Int) (r2 : Int) (w : World) (hr0_0 : Kd.C k47 w A0_0 l0_0.length l0_0) (hc0_0 : l0_0.length ≤ c0_0) (h : pack_Ready.f k l0_0 = some (r1, r2)) :
    Calls Tryz.prog 17 #[.agg #[.slice A0_0 l0_0.length c0_0]] w fun e w' => e = .returned (.tuple #[.int .i64 r1, .int .i64 r2]) ∧ Below w.heap.size w w' := by
  have hu26 := Tryz.underlying26
  have hu47 := Tryz.underlying47
  have HR0_0 := Aside0.mk hr0_0
  have HC0_0 := Aside0.mk hc0_0
  clear hr0_0 hc0_0
  have HB := Aside0.mk (Below.refl w.heap.size w)
  have H : ((pack_Check.f k l0_0).bind fun t129 => (if t129 = 0 then (pack_Ready.l0 k 0 l0_0 (l0_0.length : Int) 0) else (some (0, t129)))) = some (r1, r2) := h
  clear h
  replace H := Option.bind_eq_some_iff.mp H
  obtain ⟨t129, A20, H⟩ := H
  replace H : (if t129 = 0 then (pack_Ready.l0 k 0 l0_0 (l0_0.length : Int) 0) else (some (0, t129))) = some (r1, r2) := H
  have A2 := Aside0.mk A20
  clear A20
  by_cases c3 : t129 = 0
  · rw [if_pos c3] at H
    have c3b0 : (t129 == 0) = true := beq_iff_eq.mpr c3
    have c3b1 : (t129 != 0) = false := bne_eq_false_iff_eq.mpr c3
    clear c3
    have H' := Aside0.mk H
    clear H
    go_enter Tryz.func17, Tryz.ntmps17
    go_wp2_with (first | ((with_reducible refine gate_dst (N := 1) rfl ?_); refine box_event ?hg (N := 1) ?hd (cs := #[.slice A0_0 l0_0.length c0_0]) (t := 26) ?hr ?_; (case hd => rfl); (case hg => rfl); (case hr => first | (go_simp; done) | (go_simp; rfl)); intro gb128 hg w4 hbox hb; have n0_ := Aside0.mk (below_step (by repeat (first | (with_reducible first | exact HB.out | apply below_alloc | apply pw_below_drewN | apply below_drew1) | exact HB.out)) hb); have n1_ := Aside0.mk (hbox); have n2_ := Aside0.mk ((by rw [hg]; exact (below_size (by repeat (first | (with_reducible first | exact HB.out | apply below_alloc | apply pw_below_drewN | apply below_drew1) | exact HB.out))) : w.heap.size ≤ gb128)); have n3_ := Aside0.mk ((by rw [hg]; exact (below_size (by repeat (first | (with_reducible first | exact HB.out | apply below_alloc | apply pw_below_drewN | apply below_drew1) | exact HB.out))) : w.heap.size ≤ gb128)); clear HB; have HB := n0_; have BK128 := n1_; have GW128 := n2_; have GE128 := n3_; clear n0_ n1_ n2_ n3_; clear hb hbox hg; have hcz5_0 : w4.cell? ⟨gb128, 0, none⟩ = some (.slice A0_0 l0_0.length c0_0) := (blk_cell BK128.out 0).trans rfl; have hfz5_0 := blk_frozen BK128.out 0) | ((with_reducible refine gate_callee (f := 32) rfl ?_); refine goesL_ (some 9) rfl rfl Tryz.func32 (by kernel_rfl) rfl #[.agg #[.slice A0_0 l0_0.length c0_0]] rfl (by (try simp only [List.map_toArray, List.map_cons, List.map_nil]); first | done | rfl | (simp only [List.length_drop, List.length_take]; rfl)) ?_; (with_reducible refine (pack_Check.calls k _ _ l0_0 t129 _ ?side1 ?side2 A2.out).mono ?_); (case side1 => repeat (first | exact (Kd.C_below HR0_0.out HB.out) | (with_reducible refine Kd.C_alloc ?_ _) | (with_reducible refine Kd.C_drewN ?_ _) | (with_reducible refine Kd.C_drew ?_))); (case side2 => exact HC0_0.out); rintro e w6 ⟨rfl, hb⟩; refine ⟨_, rfl, ?_⟩; have n0_ := Aside0.mk (blk_below (g := gb128) (o := .cells #[.slice A0_0 l0_0.length c0_0] 26 (0, 0)) (by (with_reducible repeat (first | refine blk_drewN ?_ _ | refine blk_drew ?_ | refine blk_alloc ?_ _)); exact BK128.out) hb); have n1_ := Aside0.mk (below_step (by repeat (first | (with_reducible first | exact HB.out | apply below_alloc | apply pw_below_drewN | apply below_drew1 | refine below_set ?_ GE128.out) | exact HB.out)) hb); clear BK128; clear HB; have BK128 := n0_; have HB := n1_; clear n0_ n1_; (try clear hb); (try clear hb2); (try clear hk); (try clear hi); have hcz7_0 : w6.cell? ⟨gb128, 0, none⟩ = some (.slice A0_0 l0_0.length c0_0) := (blk_cell BK128.out 0).trans rfl; have hfz7_0 := blk_frozen BK128.out 0))
    go_loopg [5, 16] k (fun kq v5 v16 w' => ∃ (x5_1 : Int) (x16_1 : Int), v5 = .int .i64 x5_1 ∧ v16 = .int .i64 x16_1 ∧ Aside0 (pack_Ready.l0 kq x5_1 l0_0 (l0_0.length : Int) x16_1 = some (r1, r2)) ∧ Aside0 (kq ≤ k) ∧ Aside0 (w'.heap[gb128]? = some (.cells #[(.slice A0_0 l0_0.length c0_0)] 26 (0, 0))) ∧ Aside0 (Below w.heap.size w w'))
    case atStart => exact ⟨(0), (0), (by first | rfl | (simp; done) | (simp [*]; done)), (by first | rfl | (simp; done) | (simp [*]; done)), H', ⟨Nat.le_refl _⟩, ⟨by (with_reducible repeat (first | refine blk_drewN ?_ _ | refine blk_drew ?_ | refine blk_alloc ?_ _)); exact BK128.out⟩, ⟨by repeat (first | (with_reducible first | exact HB.out | apply below_alloc | apply pw_below_drewN | apply below_drew1 | refine below_set ?_ GE128.out) | exact HB.out)⟩⟩
    case round =>
      clear H'
      try clear c1
      try clear p2
      try clear c3
      try clear c3b0
      try clear c3b1
      try clear hcz5_0
      try clear hcz7_0
      try clear hfz5_0
      try clear hfz7_0
      obtain ⟨x5_1, x16_1, rfl, rfl, HA, HK1, BK128, HB⟩ := hrel
      cases gk with
      | zero => exact absurd HA.out (by simp [pack_Ready.l0])
      | succ k1 =>
        have H := HA.out
        clear HA
        simp only [pack_Ready.l0] at H
        by_cases c8 : x16_1 < (l0_0.length : Int)
        · rw [if_pos c8] at H
          have c8b0 : decide (x16_1 < (l0_0.length : Int)) = true := decide_eq_true c8
          clear c8
          by_cases c9 : 0 ≤ x16_1
          · rw [if_pos c9] at H
            have c9b0 : decide (0 ≤ x16_1) = true := decide_eq_true c9
            clear c9
            by_cases c10 : x16_1 < (l0_0.length : Int)
            · rw [if_pos c10] at H
              have c10b0 : decide (x16_1 < (l0_0.length : Int)) = true := decide_eq_true c10
              clear c10
              replace H := Option.bind_eq_some_iff.mp H
              obtain ⟨t132, A110, H⟩ := H
              replace H : (pack_Ready.l0 k1 (wrap64 ((wrap64 (x5_1 + (wrap64 (((rd_T47 l0_0 x16_1).f2) - ((rd_T47 l0_0 x16_1).f1))))) + t132)) l0_0 (l0_0.length : Int) (wrap64 (x16_1 + 1))) = some (r1, r2) := H
              have A11 := Aside0.mk A110
              clear A110
              have H' := Aside0.mk H
              clear H
              have p130 : 0 ≤ (x16_1 : Int) := of_decide_eq_true (by first | (with_reducible assumption) | assumption)
              have q130 : x16_1 < (l0_0.length : Int) := of_decide_eq_true (by first | (with_reducible assumption) | assumption)
              obtain ⟨ad130, e130, hx130_0, hx130_1, hx130_2⟩ := at_T47 HR0_0.out x16_1 p130 q130
              cases e130
              replace hx130_0 := (HB.out.cell (World.block_lt_of_cell? w _ hx130_0)).trans hx130_0
              replace hx130_1 := (HB.out.cell (World.block_lt_of_cell? w _ hx130_1)).trans hx130_1
              replace hx130_2 := (HB.out.cell (World.block_lt_of_cell? w _ hx130_2)).trans hx130_2
              replace p130 := eq_true p130
              replace q130 := eq_true q130
              go_wp2_with (first | ((with_reducible refine gate_dst (N := 7) rfl ?_); refine box_event ?hg (N := 7) ?hd (cs := #[.int .i64 0, .int .i64 0, .int .i64 0]) (t := 47) ?hr ?_; (case hd => rfl); (case hg => rfl); (case hr => first | (go_simp; done) | (go_simp; rfl)); intro gb131 hg w12 hbox hb; have n0_ := Aside0.mk (blk_below (g := gb128) (o := .cells #[.slice (some ad130) l0_0.length c0_0] 26 (0, 0)) (by (with_reducible repeat (first | refine blk_drewN ?_ _ | refine blk_drew ?_ | refine blk_alloc ?_ _)); exact BK128.out) hb); have n1_ := Aside0.mk (below_step (by repeat (first | (with_reducible first | exact HB.out | apply below_alloc | apply pw_below_drewN | apply below_drew1 | refine below_set ?_ GE128.out) | exact HB.out)) hb); have n2_ := Aside0.mk (hbox); have n3_ := Aside0.mk ((by rw [hg]; exact (below_size (by repeat (first | (with_reducible first | exact HB.out | apply below_alloc | apply pw_below_drewN | apply below_drew1 | refine below_set ?_ GE128.out) | exact HB.out))) : w.heap.size ≤ gb131)); have n4_ := Aside0.mk ((by rw [hg]; exact (below_size (by repeat (first | (with_reducible first | exact HB.out | apply below_alloc | apply pw_below_drewN | apply below_drew1 | refine below_set ?_ GE128.out) | exact HB.out))) : w.heap.size ≤ gb131)); have n5_ := Aside0.mk ((by rw [hg]; exact Nat.ne_of_lt (blk_lt (g := gb128) (o := .cells #[.slice (some ad130) l0_0.length c0_0] 26 (0, 0)) (by (with_reducible repeat (first | refine blk_drewN ?_ _ | refine blk_drew ?_ | refine blk_alloc ?_ _)); exact BK128.out)) : gb128 ≠ gb131)); have n6_ := Aside0.mk ((by rw [hg]; exact Nat.ne_of_gt (blk_lt (g := gb128) (o := .cells #[.slice (some ad130) l0_0.length c0_0] 26 (0, 0)) (by (with_reducible repeat (first | refine blk_drewN ?_ _ | refine blk_drew ?_ | refine blk_alloc ?_ _)); exact BK128.out)) : gb131 ≠ gb128)); clear BK128; clear HB; have BK128 := n0_; have HB := n1_; have BK131 := n2_; have GW131 := n3_; have GE131 := n4_; have NB128_131 := n5_; have NB131_128 := n6_; clear n0_ n1_ n2_ n3_ n4_ n5_ n6_; clear hb hbox hg; have hnb13 := NB131_128.out; have hnc13 := NB128_131.out; have hcz14_0 : w12.cell? ⟨gb131, 0, none⟩ = some (.int .i64 0) := (blk_cell BK131.out 0).trans rfl; have hcz14_1 : w12.cell? ⟨gb131, 1, none⟩ = some (.int .i64 0) := (blk_cell BK131.out 1).trans rfl; have hcz14_2 : w12.cell? ⟨gb131, 2, none⟩ = some (.int .i64 0) := (blk_cell BK131.out 2).trans rfl; have hfz14_0 := blk_frozen BK131.out 0; have hfz14_1 := blk_frozen BK131.out 1; have hfz14_2 := blk_frozen BK131.out 2) | ((with_reducible refine gate_callee (f := 36) rfl ?_); refine goesL_ (some 35) rfl rfl Tryz.func36 (by kernel_rfl) rfl #[.agg #[.int .i64 (wrap64 (((rd_T47 l0_0 x16_1).f0) + ((rd_T47 l0_0 x16_1).f2))), .int .i64 ((rd_T47 l0_0 x16_1).f1), .int .i64 ((rd_T47 l0_0 x16_1).f2)]] rfl (by (try simp only [List.map_toArray, List.map_cons, List.map_nil]); first | done | rfl | (simp only [List.length_drop, List.length_take]; rfl)) ?_; (with_reducible refine (pack_hold.calls (wrap64 (((rd_T47 l0_0 x16_1).f0) + ((rd_T47 l0_0 x16_1).f2))) ((rd_T47 l0_0 x16_1).f1) ((rd_T47 l0_0 x16_1).f2) t132 _ A11.out).mono ?_); rintro e w15 ⟨rfl, hb⟩; refine ⟨_, rfl, ?_⟩; have n0_ := Aside0.mk (blk_below (g := gb128) (o := .cells #[.slice (some ad130) l0_0.length c0_0] 26 (0, 0)) (by (with_reducible repeat (first | refine blk_drewN ?_ _ | refine blk_drew ?_ | refine blk_alloc ?_ _)); refine blk_far ?_ NB128_131.out _; (with_reducible repeat (first | refine blk_drewN ?_ _ | refine blk_drew ?_ | refine blk_alloc ?_ _)); refine blk_far ?_ NB128_131.out _; (with_reducible repeat (first | refine blk_drewN ?_ _ | refine blk_drew ?_ | refine blk_alloc ?_ _)); refine blk_far ?_ NB128_131.out _; (with_reducible repeat (first | refine blk_drewN ?_ _ | refine blk_drew ?_ | refine blk_alloc ?_ _)); refine blk_far ?_ NB128_131.out _; (with_reducible repeat (first | refine blk_drewN ?_ _ | refine blk_drew ?_ | refine blk_alloc ?_ _)); exact BK128.out) hb); have n1_ := Aside0.mk (blk_below (g := gb131) (o := .cells #[.int .i64 (wrap64 (((rd_T47 l0_0 x16_1).f0) + ((rd_T47 l0_0 x16_1).f2))), .int .i64 ((rd_T47 l0_0 x16_1).f1), .int .i64 ((rd_T47 l0_0 x16_1).f2)] 47 (0, 0)) (by (with_reducible repeat (first | refine blk_drewN ?_ _ | refine blk_drew ?_ | refine blk_alloc ?_ _)); refine blk_put (cs := #[.int .i64 ((rd_T47 l0_0 x16_1).f0), .int .i64 ((rd_T47 l0_0 x16_1).f1), .int .i64 ((rd_T47 l0_0 x16_1).f2)]) ?_ 0 _ rfl; (with_reducible repeat (first | refine blk_drewN ?_ _ | refine blk_drew ?_ | refine blk_alloc ?_ _)); refine blk_put (cs := #[.int .i64 ((rd_T47 l0_0 x16_1).f0), .int .i64 ((rd_T47 l0_0 x16_1).f1), .int .i64 0]) ?_ 2 _ rfl; (with_reducible repeat (first | refine blk_drewN ?_ _ | refine blk_drew ?_ | refine blk_alloc ?_ _)); refine blk_put (cs := #[.int .i64 ((rd_T47 l0_0 x16_1).f0), .int .i64 0, .int .i64 0]) ?_ 1 _ rfl; (with_reducible repeat (first | refine blk_drewN ?_ _ | refine blk_drew ?_ | refine blk_alloc ?_ _)); refine blk_put (cs := #[.int .i64 0, .int .i64 0, .int .i64 0]) ?_ 0 _ rfl; (with_reducible repeat (first | refine blk_drewN ?_ _ | refine blk_drew ?_ | refine blk_alloc ?_ _)); exact BK131.out) hb); have n2_ := Aside0.mk (below_step (by repeat (first | (with_reducible first | exact HB.out | apply below_alloc | apply pw_below_drewN | apply below_drew1 | refine below_set ?_ GE128.out | refine below_set ?_ GE131.out) | exact HB.out)) hb); clear BK128; clear BK131; clear HB; have BK128 := n0_; have BK131 := n1_; have HB := n2_; clear n0_ n1_ n2_; (try clear hb); (try clear hb2); (try clear hk); (try clear hi)))
              go_roundg k1
              case measure => have := HK1.out; omega
              case rel => exact ⟨(wrap64 ((wrap64 (x5_1 + (wrap64 (((rd_T47 l0_0 x16_1).f2) - ((rd_T47 l0_0 x16_1).f1))))) + t132)), (wrap64 (x16_1 + 1)), (by first | rfl | (simp; done) | (simp [*]; done)), (by first | rfl | (simp; done) | (simp [*]; done)), H', ⟨by have := HK1.out; omega⟩, ⟨by (with_reducible repeat (first | refine blk_drewN ?_ _ | refine blk_drew ?_ | refine blk_alloc ?_ _)); exact BK128.out⟩, ⟨by repeat (first | (with_reducible first | exact HB.out | apply below_alloc | apply pw_below_drewN | apply below_drew1 | refine below_set ?_ GE128.out | refine below_set ?_ GE131.out) | exact HB.out)⟩⟩
            · rw [if_neg c10] at H
              exact absurd H (by simp)
          · rw [if_neg c9] at H
            exact absurd H (by simp)
        · rw [if_neg c8] at H
          have c8b0 : decide (x16_1 < (l0_0.length : Int)) = false := decide_eq_false c8
          clear c8
          simp only [Option.some.injEq, Prod.mk.injEq] at H
          obtain ⟨rfl, rfl⟩ := H
          go_wp2
          go_ret2
          exact ⟨by first | rfl | (simp [errW_none, errW_some] <;> rfl) | (simp [*, errW_none, errW_some] <;> rfl), by repeat (first | (with_reducible first | exact HB.out | apply below_alloc | apply pw_below_drewN | apply below_drew1 | refine below_set ?_ GE128.out) | exact HB.out)⟩
  · rw [if_neg c3] at H
    have c3b0 : (t129 == 0) = false := beq_eq_false_iff_ne.mpr c3
    have c3b1 : (t129 != 0) = true := bne_iff_ne.mpr c3
    simp only [Option.some.injEq, Prod.mk.injEq] at H
    obtain ⟨rfl, rfl⟩ := H
    go_enter Tryz.func17, Tryz.ntmps17
    go_wp2_with (first | ((with_reducible refine gate_dst (N := 1) rfl ?_); refine box_event ?hg (N := 1) ?hd (cs := #[.slice A0_0 l0_0.length c0_0]) (t := 26) ?hr ?_; (case hd => rfl); (case hg => rfl); (case hr => first | (go_simp; done) | (go_simp; rfl)); intro gb128 hg w16 hbox hb; have n0_ := Aside0.mk (below_step (by repeat (first | (with_reducible first | exact HB.out | apply below_alloc | apply pw_below_drewN | apply below_drew1) | exact HB.out)) hb); have n1_ := Aside0.mk (hbox); have n2_ := Aside0.mk ((by rw [hg]; exact (below_size (by repeat (first | (with_reducible first | exact HB.out | apply below_alloc | apply pw_below_drewN | apply below_drew1) | exact HB.out))) : w.heap.size ≤ gb128)); have n3_ := Aside0.mk ((by rw [hg]; exact (below_size (by repeat (first | (with_reducible first | exact HB.out | apply below_alloc | apply pw_below_drewN | apply below_drew1) | exact HB.out))) : w.heap.size ≤ gb128)); clear HB; have HB := n0_; have BK128 := n1_; have GW128 := n2_; have GE128 := n3_; clear n0_ n1_ n2_ n3_; clear hb hbox hg; have hcz17_0 : w16.cell? ⟨gb128, 0, none⟩ = some (.slice A0_0 l0_0.length c0_0) := (blk_cell BK128.out 0).trans rfl; have hfz17_0 := blk_frozen BK128.out 0) | ((with_reducible refine gate_callee (f := 32) rfl ?_); refine goesL_ (some 9) rfl rfl Tryz.func32 (by kernel_rfl) rfl #[.agg #[.slice A0_0 l0_0.length c0_0]] rfl (by (try simp only [List.map_toArray, List.map_cons, List.map_nil]); first | done | rfl | (simp only [List.length_drop, List.length_take]; rfl)) ?_; (with_reducible refine (pack_Check.calls k _ _ l0_0 t129 _ ?side1 ?side2 A2.out).mono ?_); (case side1 => repeat (first | exact (Kd.C_below HR0_0.out HB.out) | (with_reducible refine Kd.C_alloc ?_ _) | (with_reducible refine Kd.C_drewN ?_ _) | (with_reducible refine Kd.C_drew ?_))); (case side2 => exact HC0_0.out); rintro e w18 ⟨rfl, hb⟩; refine ⟨_, rfl, ?_⟩; have n0_ := Aside0.mk (blk_below (g := gb128) (o := .cells #[.slice A0_0 l0_0.length c0_0] 26 (0, 0)) (by (with_reducible repeat (first | refine blk_drewN ?_ _ | refine blk_drew ?_ | refine blk_alloc ?_ _)); exact BK128.out) hb); have n1_ := Aside0.mk (below_step (by repeat (first | (with_reducible first | exact HB.out | apply below_alloc | apply pw_below_drewN | apply below_drew1 | refine below_set ?_ GE128.out) | exact HB.out)) hb); clear BK128; clear HB; have BK128 := n0_; have HB := n1_; clear n0_ n1_; (try clear hb); (try clear hb2); (try clear hk); (try clear hi)))
    go_ret2
    exact ⟨by first | rfl | (simp [errW_none, errW_some] <;> rfl) | (simp [*, errW_none, errW_some] <;> rfl), by repeat (first | (with_reducible first | exact HB.out | apply below_alloc | apply pw_below_drewN | apply below_drew1 | refine below_set ?_ GE128.out) | exact HB.out)⟩
end Go.Proofs.YtpldcikmlpegpaaGreatDoor.PB
end
section
namespace Go.Proofs.YtpldcikmlpegpaaGreatDoor.PB
open Go.RowKit Go.Proofs.YtpldcikmlpegpaaGreatDoorW.PrintWords Go.Proofs.YtpldcikmlpegpaaGreatDoorW.PrintLast Go.Proofs.YtpldcikmlpegpaaGreatDoorW.PrintMore
attribute [local go_sem] max2_int min2_int max_two min_two max_three min_three max_four min_four   -- for this text's walks alone
set_option linter.unusedVariables false
set_option linter.unusedSimpArgs false
def pack_joined.f (a0_0 : Int) (a0_1 : Int) (a0_2 : Int) (a1_0 : Int) (a1_1 : Int) (a1_2 : Int) : Option (Int × Int × Int) := some (wrap64 ((wrap64 (a0_0 + a1_0)) + (mn (wrap64 (a0_1 + a1_1)) (wrap64 (a0_2 + a1_2)))), wrap64 ((wrap64 (a0_1 + a1_1)) - (mn (wrap64 (a0_1 + a1_1)) (wrap64 (a0_2 + a1_2)))), wrap64 ((wrap64 (a0_2 + a1_2)) - (mn (wrap64 (a0_1 + a1_1)) (wrap64 (a0_2 + a1_2)))))
set_option maxHeartbeats 8000000 in
set_option maxRecDepth 100000 in
theorem pack_joined.calls (a0_0 : Int) (a0_1 : Int) (a0_2 : Int) (a1_0 : Int) (a1_1 : Int) (a1_2 : Int) (r1 : Int) (r2 : Int) (r3 : Int) (w : World) (h : pack_joined.f a0_0 a0_1 a0_2 a1_0 a1_1 a1_2 = some (r1, r2, r3)) :
    Calls Tryz.prog 46 #[.agg #[.int .i64 a0_0, .int .i64 a0_1, .int .i64 a0_2], .agg #[.int .i64 a1_0, .int .i64 a1_1, .int .i64 a1_2]] w fun e w' => e = .returned (.agg #[.int .i64 r1, .int .i64 r2, .int .i64 r3]) ∧ Below w.heap.size w w' := by
  have hu47 := Tryz.underlying47
  have HB := Aside0.mk (Below.refl w.heap.size w)
  have H : (some (wrap64 ((wrap64 (a0_0 + a1_0)) + (mn (wrap64 (a0_1 + a1_1)) (wrap64 (a0_2 + a1_2)))), wrap64 ((wrap64 (a0_1 + a1_1)) - (mn (wrap64 (a0_1 + a1_1)) (wrap64 (a0_2 + a1_2)))), wrap64 ((wrap64 (a0_2 + a1_2)) - (mn (wrap64 (a0_1 + a1_1)) (wrap64 (a0_2 + a1_2)))))) = some (r1, r2, r3) := h
  clear h
  obtain ⟨ji3, hji3⟩ : ∃ j_ : Int, (mn (wrap64 (a0_1 + a1_1)) (wrap64 (a0_2 + a1_2))) = j_ := ⟨_, rfl⟩
  replace H : (some (wrap64 ((wrap64 (a0_0 + a1_0)) + (ji3)), wrap64 ((wrap64 (a0_1 + a1_1)) - (ji3)), wrap64 ((wrap64 (a0_2 + a1_2)) - (ji3)))) = some (r1, r2, r3) := by first | (rw [hji3] at H; exact H) | (simp only [hji3] at H ⊢; exact H)
  have hji3_ : (if (wrap64 (a0_2 + a1_2)) < (wrap64 (a0_1 + a1_1)) then (wrap64 (a0_2 + a1_2)) else (wrap64 (a0_1 + a1_1))) = ji3 := hji3
  simp only [Option.some.injEq, Prod.mk.injEq] at H
  obtain ⟨rfl, rfl, rfl⟩ := H
  go_enter Tryz.func46, Tryz.ntmps46
  go_wp2_with (first | ((with_reducible refine gate_dst (N := 2) rfl ?_); refine box_event ?hg (N := 2) ?hd (cs := #[.int .i64 a0_0, .int .i64 a0_1, .int .i64 a0_2]) (t := 47) ?hr ?_; (case hd => rfl); (case hg => rfl); (case hr => first | (go_simp; done) | (go_simp; rfl)); intro gb119 hg w4 hbox hb; have n0_ := Aside0.mk (below_step (by repeat (first | (with_reducible first | exact HB.out | apply below_alloc | apply pw_below_drewN | apply below_drew1) | exact HB.out)) hb); have n1_ := Aside0.mk (hbox); have n2_ := Aside0.mk ((by rw [hg]; exact (below_size (by repeat (first | (with_reducible first | exact HB.out | apply below_alloc | apply pw_below_drewN | apply below_drew1) | exact HB.out))) : w.heap.size ≤ gb119)); have n3_ := Aside0.mk ((by rw [hg]; exact (below_size (by repeat (first | (with_reducible first | exact HB.out | apply below_alloc | apply pw_below_drewN | apply below_drew1) | exact HB.out))) : w.heap.size ≤ gb119)); clear HB; have HB := n0_; have BK119 := n1_; have GW119 := n2_; have GE119 := n3_; clear n0_ n1_ n2_ n3_; clear hb hbox hg) | ((with_reducible refine gate_dst (N := 3) rfl ?_); refine box_event ?hg (N := 3) ?hd (cs := #[.int .i64 a1_0, .int .i64 a1_1, .int .i64 a1_2]) (t := 47) ?hr ?_; (case hd => rfl); (case hg => rfl); (case hr => first | (go_simp; done) | (go_simp; rfl)); intro gb120 hg w5 hbox hb; have n0_ := Aside0.mk (blk_below (g := gb119) (o := .cells #[.int .i64 a0_0, .int .i64 a0_1, .int .i64 a0_2] 47 (0, 0)) (by (with_reducible repeat (first | refine blk_drewN ?_ _ | refine blk_drew ?_ | refine blk_alloc ?_ _)); exact BK119.out) hb); have n1_ := Aside0.mk (below_step (by repeat (first | (with_reducible first | exact HB.out | apply below_alloc | apply pw_below_drewN | apply below_drew1 | refine below_set ?_ GE119.out) | exact HB.out)) hb); have n2_ := Aside0.mk (hbox); have n3_ := Aside0.mk ((by rw [hg]; exact (below_size (by repeat (first | (with_reducible first | exact HB.out | apply below_alloc | apply pw_below_drewN | apply below_drew1 | refine below_set ?_ GE119.out) | exact HB.out))) : w.heap.size ≤ gb120)); have n4_ := Aside0.mk ((by rw [hg]; exact (below_size (by repeat (first | (with_reducible first | exact HB.out | apply below_alloc | apply pw_below_drewN | apply below_drew1 | refine below_set ?_ GE119.out) | exact HB.out))) : w.heap.size ≤ gb120)); have n5_ := Aside0.mk ((by rw [hg]; exact Nat.ne_of_lt (blk_lt (g := gb119) (o := .cells #[.int .i64 a0_0, .int .i64 a0_1, .int .i64 a0_2] 47 (0, 0)) (by (with_reducible repeat (first | refine blk_drewN ?_ _ | refine blk_drew ?_ | refine blk_alloc ?_ _)); exact BK119.out)) : gb119 ≠ gb120)); have n6_ := Aside0.mk ((by rw [hg]; exact Nat.ne_of_gt (blk_lt (g := gb119) (o := .cells #[.int .i64 a0_0, .int .i64 a0_1, .int .i64 a0_2] 47 (0, 0)) (by (with_reducible repeat (first | refine blk_drewN ?_ _ | refine blk_drew ?_ | refine blk_alloc ?_ _)); exact BK119.out)) : gb120 ≠ gb119)); clear BK119; clear HB; have BK119 := n0_; have HB := n1_; have BK120 := n2_; have GW120 := n3_; have GE120 := n4_; have NB119_120 := n5_; have NB120_119 := n6_; clear n0_ n1_ n2_ n3_ n4_ n5_ n6_; clear hb hbox hg) | ((with_reducible refine gate_dst (N := 4) rfl ?_); refine box_event ?hg (N := 4) ?hd (cs := #[.int .i64 0, .int .i64 0, .int .i64 0]) (t := 47) ?hr ?_; (case hd => rfl); (case hg => rfl); (case hr => first | (go_simp; done) | (go_simp; rfl)); intro gb121 hg w6 hbox hb; have n0_ := Aside0.mk (blk_below (g := gb119) (o := .cells #[.int .i64 a0_0, .int .i64 a0_1, .int .i64 a0_2] 47 (0, 0)) (by (with_reducible repeat (first | refine blk_drewN ?_ _ | refine blk_drew ?_ | refine blk_alloc ?_ _)); exact BK119.out) hb); have n1_ := Aside0.mk (blk_below (g := gb120) (o := .cells #[.int .i64 a1_0, .int .i64 a1_1, .int .i64 a1_2] 47 (0, 0)) (by (with_reducible repeat (first | refine blk_drewN ?_ _ | refine blk_drew ?_ | refine blk_alloc ?_ _)); exact BK120.out) hb); have n2_ := Aside0.mk (below_step (by repeat (first | (with_reducible first | exact HB.out | apply below_alloc | apply pw_below_drewN | apply below_drew1 | refine below_set ?_ GE119.out | refine below_set ?_ GE120.out) | exact HB.out)) hb); have n3_ := Aside0.mk (hbox); have n4_ := Aside0.mk ((by rw [hg]; exact (below_size (by repeat (first | (with_reducible first | exact HB.out | apply below_alloc | apply pw_below_drewN | apply below_drew1 | refine below_set ?_ GE119.out | refine below_set ?_ GE120.out) | exact HB.out))) : w.heap.size ≤ gb121)); have n5_ := Aside0.mk ((by rw [hg]; exact (below_size (by repeat (first | (with_reducible first | exact HB.out | apply below_alloc | apply pw_below_drewN | apply below_drew1 | refine below_set ?_ GE119.out | refine below_set ?_ GE120.out) | exact HB.out))) : w.heap.size ≤ gb121)); have n6_ := Aside0.mk ((by rw [hg]; exact Nat.ne_of_lt (blk_lt (g := gb119) (o := .cells #[.int .i64 a0_0, .int .i64 a0_1, .int .i64 a0_2] 47 (0, 0)) (by (with_reducible repeat (first | refine blk_drewN ?_ _ | refine blk_drew ?_ | refine blk_alloc ?_ _)); exact BK119.out)) : gb119 ≠ gb121)); have n7_ := Aside0.mk ((by rw [hg]; exact Nat.ne_of_gt (blk_lt (g := gb119) (o := .cells #[.int .i64 a0_0, .int .i64 a0_1, .int .i64 a0_2] 47 (0, 0)) (by (with_reducible repeat (first | refine blk_drewN ?_ _ | refine blk_drew ?_ | refine blk_alloc ?_ _)); exact BK119.out)) : gb121 ≠ gb119)); have n8_ := Aside0.mk ((by rw [hg]; exact Nat.ne_of_lt (blk_lt (g := gb120) (o := .cells #[.int .i64 a1_0, .int .i64 a1_1, .int .i64 a1_2] 47 (0, 0)) (by (with_reducible repeat (first | refine blk_drewN ?_ _ | refine blk_drew ?_ | refine blk_alloc ?_ _)); exact BK120.out)) : gb120 ≠ gb121)); have n9_ := Aside0.mk ((by rw [hg]; exact Nat.ne_of_gt (blk_lt (g := gb120) (o := .cells #[.int .i64 a1_0, .int .i64 a1_1, .int .i64 a1_2] 47 (0, 0)) (by (with_reducible repeat (first | refine blk_drewN ?_ _ | refine blk_drew ?_ | refine blk_alloc ?_ _)); exact BK120.out)) : gb121 ≠ gb120)); clear BK119; clear BK120; clear HB; have BK119 := n0_; have BK120 := n1_; have HB := n2_; have BK121 := n3_; have GW121 := n4_; have GE121 := n5_; have NB119_121 := n6_; have NB121_119 := n7_; have NB120_121 := n8_; have NB121_120 := n9_; clear n0_ n1_ n2_ n3_ n4_ n5_ n6_ n7_ n8_ n9_; clear hb hbox hg; have hnb7 := NB119_120.out; have hnc7 := NB120_119.out; have hnb8 := NB119_121.out; have hnc8 := NB121_119.out; have hcz9_0 : w6.cell? ⟨gb119, 0, none⟩ = some (.int .i64 a0_0) := (blk_cell BK119.out 0).trans rfl; have hcz9_1 : w6.cell? ⟨gb119, 1, none⟩ = some (.int .i64 a0_1) := (blk_cell BK119.out 1).trans rfl; have hcz9_2 : w6.cell? ⟨gb119, 2, none⟩ = some (.int .i64 a0_2) := (blk_cell BK119.out 2).trans rfl; have hfz9_0 := blk_frozen BK119.out 0; have hfz9_1 := blk_frozen BK119.out 1; have hfz9_2 := blk_frozen BK119.out 2; have hnb10 := NB120_121.out; have hnc10 := NB121_120.out; have hcz11_0 : w6.cell? ⟨gb120, 0, none⟩ = some (.int .i64 a1_0) := (blk_cell BK120.out 0).trans rfl; have hcz11_1 : w6.cell? ⟨gb120, 1, none⟩ = some (.int .i64 a1_1) := (blk_cell BK120.out 1).trans rfl; have hcz11_2 : w6.cell? ⟨gb120, 2, none⟩ = some (.int .i64 a1_2) := (blk_cell BK120.out 2).trans rfl; have hfz11_0 := blk_frozen BK120.out 0; have hfz11_1 := blk_frozen BK120.out 1; have hfz11_2 := blk_frozen BK120.out 2) | ((with_reducible refine gate_dst (N := 5) rfl ?_); refine box_event ?hg (N := 5) ?hd (cs := #[.int .i64 0, .int .i64 0, .int .i64 0]) (t := 47) ?hr ?_; (case hd => rfl); (case hg => rfl); (case hr => first | (go_simp; done) | (go_simp; rfl)); intro gb122 hg w12 hbox hb; have n0_ := Aside0.mk (blk_below (g := gb119) (o := .cells #[.int .i64 a0_0, .int .i64 a0_1, .int .i64 a0_2] 47 (0, 0)) (by (with_reducible repeat (first | refine blk_drewN ?_ _ | refine blk_drew ?_ | refine blk_alloc ?_ _)); exact BK119.out) hb); have n1_ := Aside0.mk (blk_below (g := gb120) (o := .cells #[.int .i64 a1_0, .int .i64 a1_1, .int .i64 a1_2] 47 (0, 0)) (by (with_reducible repeat (first | refine blk_drewN ?_ _ | refine blk_drew ?_ | refine blk_alloc ?_ _)); exact BK120.out) hb); have n2_ := Aside0.mk (blk_below (g := gb121) (o := .cells #[.int .i64 0, .int .i64 0, .int .i64 0] 47 (0, 0)) (by (with_reducible repeat (first | refine blk_drewN ?_ _ | refine blk_drew ?_ | refine blk_alloc ?_ _)); exact BK121.out) hb); have n3_ := Aside0.mk (below_step (by repeat (first | (with_reducible first | exact HB.out | apply below_alloc | apply pw_below_drewN | apply below_drew1 | refine below_set ?_ GE119.out | refine below_set ?_ GE120.out | refine below_set ?_ GE121.out) | exact HB.out)) hb); have n4_ := Aside0.mk (hbox); have n5_ := Aside0.mk ((by rw [hg]; exact (below_size (by repeat (first | (with_reducible first | exact HB.out | apply below_alloc | apply pw_below_drewN | apply below_drew1 | refine below_set ?_ GE119.out | refine below_set ?_ GE120.out | refine below_set ?_ GE121.out) | exact HB.out))) : w.heap.size ≤ gb122)); have n6_ := Aside0.mk ((by rw [hg]; exact (below_size (by repeat (first | (with_reducible first | exact HB.out | apply below_alloc | apply pw_below_drewN | apply below_drew1 | refine below_set ?_ GE119.out | refine below_set ?_ GE120.out | refine below_set ?_ GE121.out) | exact HB.out))) : w.heap.size ≤ gb122)); have n7_ := Aside0.mk ((by rw [hg]; exact Nat.ne_of_lt (blk_lt (g := gb119) (o := .cells #[.int .i64 a0_0, .int .i64 a0_1, .int .i64 a0_2] 47 (0, 0)) (by (with_reducible repeat (first | refine blk_drewN ?_ _ | refine blk_drew ?_ | refine blk_alloc ?_ _)); exact BK119.out)) : gb119 ≠ gb122)); have n8_ := Aside0.mk ((by rw [hg]; exact Nat.ne_of_gt (blk_lt (g := gb119) (o := .cells #[.int .i64 a0_0, .int .i64 a0_1, .int .i64 a0_2] 47 (0, 0)) (by (with_reducible repeat (first | refine blk_drewN ?_ _ | refine blk_drew ?_ | refine blk_alloc ?_ _)); exact BK119.out)) : gb122 ≠ gb119)); have n9_ := Aside0.mk ((by rw [hg]; exact Nat.ne_of_lt (blk_lt (g := gb120) (o := .cells #[.int .i64 a1_0, .int .i64 a1_1, .int .i64 a1_2] 47 (0, 0)) (by (with_reducible repeat (first | refine blk_drewN ?_ _ | refine blk_drew ?_ | refine blk_alloc ?_ _)); exact BK120.out)) : gb120 ≠ gb122)); have n10_ := Aside0.mk ((by rw [hg]; exact Nat.ne_of_gt (blk_lt (g := gb120) (o := .cells #[.int .i64 a1_0, .int .i64 a1_1, .int .i64 a1_2] 47 (0, 0)) (by (with_reducible repeat (first | refine blk_drewN ?_ _ | refine blk_drew ?_ | refine blk_alloc ?_ _)); exact BK120.out)) : gb122 ≠ gb120)); have n11_ := Aside0.mk ((by rw [hg]; exact Nat.ne_of_lt (blk_lt (g := gb121) (o := .cells #[.int .i64 0, .int .i64 0, .int .i64 0] 47 (0, 0)) (by (with_reducible repeat (first | refine blk_drewN ?_ _ | refine blk_drew ?_ | refine blk_alloc ?_ _)); exact BK121.out)) : gb121 ≠ gb122)); have n12_ := Aside0.mk ((by rw [hg]; exact Nat.ne_of_gt (blk_lt (g := gb121) (o := .cells #[.int .i64 0, .int .i64 0, .int .i64 0] 47 (0, 0)) (by (with_reducible repeat (first | refine blk_drewN ?_ _ | refine blk_drew ?_ | refine blk_alloc ?_ _)); exact BK121.out)) : gb122 ≠ gb121)); clear BK119; clear BK120; clear BK121; clear HB; have BK119 := n0_; have BK120 := n1_; have BK121 := n2_; have HB := n3_; have BK122 := n4_; have GW122 := n5_; have GE122 := n6_; have NB119_122 := n7_; have NB122_119 := n8_; have NB120_122 := n9_; have NB122_120 := n10_; have NB121_122 := n11_; have NB122_121 := n12_; clear n0_ n1_ n2_ n3_ n4_ n5_ n6_ n7_ n8_ n9_ n10_ n11_ n12_; clear hb hbox hg; have hnb13 := NB122_119.out; have hnc13 := NB119_122.out; have hnb14 := NB122_120.out; have hnc14 := NB120_122.out; have hnb15 := NB122_121.out; have hnc15 := NB121_122.out; have hcz16_0 : w12.cell? ⟨gb122, 0, none⟩ = some (.int .i64 0) := (blk_cell BK122.out 0).trans rfl; have hcz16_1 : w12.cell? ⟨gb122, 1, none⟩ = some (.int .i64 0) := (blk_cell BK122.out 1).trans rfl; have hcz16_2 : w12.cell? ⟨gb122, 2, none⟩ = some (.int .i64 0) := (blk_cell BK122.out 2).trans rfl; have hfz16_0 := blk_frozen BK122.out 0; have hfz16_1 := blk_frozen BK122.out 1; have hfz16_2 := blk_frozen BK122.out 2; have hcz17_0 : w12.cell? ⟨gb121, 0, none⟩ = some (.int .i64 0) := (blk_cell BK121.out 0).trans rfl; have hcz17_1 : w12.cell? ⟨gb121, 1, none⟩ = some (.int .i64 0) := (blk_cell BK121.out 1).trans rfl; have hcz17_2 : w12.cell? ⟨gb121, 2, none⟩ = some (.int .i64 0) := (blk_cell BK121.out 2).trans rfl; have hfz17_0 := blk_frozen BK121.out 0; have hfz17_1 := blk_frozen BK121.out 1; have hfz17_2 := blk_frozen BK121.out 2))
  refine bodyPost_ret (results_cell_row rfl _ _ gb121 47 #[.int .i64 (wrap64 ((wrap64 (a0_0 + a1_0)) + (ji3))), .int .i64 (wrap64 ((wrap64 (a0_1 + a1_1)) - (ji3))), .int .i64 (wrap64 ((wrap64 (a0_2 + a1_2)) - (ji3)))] (0, 0) _ rfl (by (with_reducible repeat (first | refine blk_drewN ?_ _ | refine blk_drew ?_ | refine blk_alloc ?_ _)); refine blk_put (cs := #[.int .i64 (wrap64 ((wrap64 (a0_0 + a1_0)) + (ji3))), .int .i64 (wrap64 ((wrap64 (a0_1 + a1_1)) - (ji3))), .int .i64 0]) ?_ 2 _ rfl; (with_reducible repeat (first | refine blk_drewN ?_ _ | refine blk_drew ?_ | refine blk_alloc ?_ _)); refine blk_put (cs := #[.int .i64 (wrap64 ((wrap64 (a0_0 + a1_0)) + (ji3))), .int .i64 0, .int .i64 0]) ?_ 1 _ rfl; (with_reducible repeat (first | refine blk_drewN ?_ _ | refine blk_drew ?_ | refine blk_alloc ?_ _)); refine blk_put (cs := #[.int .i64 0, .int .i64 0, .int .i64 0]) ?_ 0 _ rfl; (with_reducible repeat (first | refine blk_drewN ?_ _ | refine blk_drew ?_ | refine blk_alloc ?_ _)); refine blk_far ?_ NB121_122.out _; (with_reducible repeat (first | refine blk_drewN ?_ _ | refine blk_drew ?_ | refine blk_alloc ?_ _)); refine blk_far ?_ NB121_122.out _; (with_reducible repeat (first | refine blk_drewN ?_ _ | refine blk_drew ?_ | refine blk_alloc ?_ _)); refine blk_far ?_ NB121_122.out _; (with_reducible repeat (first | refine blk_drewN ?_ _ | refine blk_drew ?_ | refine blk_alloc ?_ _)); exact BK121.out) Tryz.underlying47 rfl (by kernel_rfl)) rfl ?_
  exact ⟨by first | rfl | (simp [errW_none, errW_some] <;> rfl) | (simp only [← hji3]; first | rfl | (simp [errW_none, errW_some] <;> rfl)) | (simp [*, errW_none, errW_some] <;> rfl), by repeat (first | (with_reducible first | exact HB.out | apply below_alloc | apply pw_below_drewN | apply below_drew1 | refine below_set ?_ GE119.out | refine below_set ?_ GE120.out | refine below_set ?_ GE121.out | refine below_set ?_ GE122.out) | exact HB.out)⟩
def pack_strength.f (a0_0 : Int) (a0_1 : Int) (a0_2 : Int) : Option (Int) := some (wrap64 ((wrap64 ((wrap64 (10 * a0_0)) + a0_2)) - (wrap64 (40 * a0_1))))
set_option maxHeartbeats 8000000 in
set_option maxRecDepth 100000 in
theorem pack_strength.calls (a0_0 : Int) (a0_1 : Int) (a0_2 : Int) (r : Int) (w : World) (h : pack_strength.f a0_0 a0_1 a0_2 = some r) :
    Calls Tryz.prog 42 #[.agg #[.int .i64 a0_0, .int .i64 a0_1, .int .i64 a0_2]] w fun e w' => e = .returned (.int .i64 r) ∧ Below w.heap.size w w' := by
  have hu47 := Tryz.underlying47
  have HB := Aside0.mk (Below.refl w.heap.size w)
  have H : (some (wrap64 ((wrap64 ((wrap64 (10 * a0_0)) + a0_2)) - (wrap64 (40 * a0_1))))) = some r := h
  clear h
  obtain rfl := Option.some.inj H
  go_enter Tryz.func42, Tryz.ntmps42
  go_wp2_with (first | ((with_reducible refine gate_dst (N := 1) rfl ?_); refine box_event ?hg (N := 1) ?hd (cs := #[.int .i64 a0_0, .int .i64 a0_1, .int .i64 a0_2]) (t := 47) ?hr ?_; (case hd => rfl); (case hg => rfl); (case hr => first | (go_simp; done) | (go_simp; rfl)); intro gb123 hg w2 hbox hb; have n0_ := Aside0.mk (below_step (by repeat (first | (with_reducible first | exact HB.out | apply below_alloc | apply pw_below_drewN | apply below_drew1) | exact HB.out)) hb); have n1_ := Aside0.mk (hbox); have n2_ := Aside0.mk ((by rw [hg]; exact (below_size (by repeat (first | (with_reducible first | exact HB.out | apply below_alloc | apply pw_below_drewN | apply below_drew1) | exact HB.out))) : w.heap.size ≤ gb123)); have n3_ := Aside0.mk ((by rw [hg]; exact (below_size (by repeat (first | (with_reducible first | exact HB.out | apply below_alloc | apply pw_below_drewN | apply below_drew1) | exact HB.out))) : w.heap.size ≤ gb123)); clear HB; have HB := n0_; have BK123 := n1_; have GW123 := n2_; have GE123 := n3_; clear n0_ n1_ n2_ n3_; clear hb hbox hg; have hcz3_0 : w2.cell? ⟨gb123, 0, none⟩ = some (.int .i64 a0_0) := (blk_cell BK123.out 0).trans rfl; have hcz3_1 : w2.cell? ⟨gb123, 1, none⟩ = some (.int .i64 a0_1) := (blk_cell BK123.out 1).trans rfl; have hcz3_2 : w2.cell? ⟨gb123, 2, none⟩ = some (.int .i64 a0_2) := (blk_cell BK123.out 2).trans rfl; have hfz3_0 := blk_frozen BK123.out 0; have hfz3_1 := blk_frozen BK123.out 1; have hfz3_2 := blk_frozen BK123.out 2))
  go_ret
  exact ⟨by first | rfl | (simp [errW_none, errW_some] <;> rfl) | (simp [*, errW_none, errW_some] <;> rfl), by repeat (first | (with_reducible first | exact HB.out | apply below_alloc | apply pw_below_drewN | apply below_drew1 | refine below_set ?_ GE123.out) | exact HB.out)⟩
end Go.Proofs.YtpldcikmlpegpaaGreatDoor.PB
end
section
namespace Go.Proofs.YtpldcikmlpegpaaGreatDoor.PB
open Go.RowKit Go.Proofs.YtpldcikmlpegpaaGreatDoorW.PrintWords Go.Proofs.YtpldcikmlpegpaaGreatDoorW.PrintLast Go.Proofs.YtpldcikmlpegpaaGreatDoorW.PrintMore
structure KeepS (S : Nat → Prop) (w w' : World) : Prop where
  os : w'.os = w.os
  tape : w'.tape = w.tape
  output : w'.output = w.output
  size : w.heap.size ≤ w'.heap.size
  block : ∀ k, k < w.heap.size → ¬ S k → w'.heap[k]? = w.heap[k]?
section
variable {S : Nat → Prop}
theorem KeepS.refl (S : Nat → Prop) (w : World) : KeepS S w w := ⟨rfl, rfl, rfl, Nat.le_refl _, fun _ _ _ => rfl⟩
theorem KeepS.trans {a b c : World} (h : KeepS S a b) (k : KeepS S b c) : KeepS S a c :=
  ⟨k.os.trans h.os, k.tape.trans h.tape, k.output.trans h.output, Nat.le_trans h.size k.size, fun i hi hg => (k.block i (Nat.lt_of_lt_of_le hi h.size) hg).trans (h.block i hi hg)⟩
theorem KeepS.of_below {w w' : World} (h : Below w.heap.size w w') : KeepS S w w' := ⟨h.os, h.tape, h.output, h.size, fun k hk _ => h.block k hk⟩
theorem KeepS.below {B : Nat} {w0 w w' : World} (h : KeepS S w w') (hb : Below B w0 w) (hB : ∀ k, S k → B ≤ k) (hs : B ≤ w.heap.size) : Below B w0 w' :=
  ⟨h.os.trans hb.os, h.tape.trans hb.tape, h.output.trans hb.output, Nat.le_trans hb.size h.size, fun k hk => (h.block k (by omega) (fun hS => by have := hB k hS; omega)).trans (hb.block k hk)⟩
theorem KeepS.set {g : Nat} (hg : S g) (w : World) (i : Nat) (v : Value) : KeepS S w (w.setCell ⟨g, i, none⟩ v) := by
  refine ⟨?_, ?_, ?_, ?_, fun k hk hS => Below.heap_setCell w ⟨g, i, none⟩ v k (fun e => hS (e ▸ hg))⟩
  all_goals (unfold World.setCell; first | rfl | (split <;> first | rfl | simp) | simp)
theorem KeepS.drew (w : World) : KeepS S w w.drew := ⟨rfl, rfl, rfl, Nat.le_refl _, fun _ _ _ => rfl⟩
theorem KeepS.drewN (w : World) (n : Nat) : KeepS S w (w.drewN n) := ⟨rfl, rfl, rfl, Nat.le_refl _, fun _ _ _ => rfl⟩
theorem KeepS.alloc (w : World) (o : Obj) : KeepS S w (w.alloc o) := KeepS.of_below ((Below.refl _ _).alloc (Nat.le_refl _) _)
theorem KeepS.blk {k : Nat} {w w' : World} {o : Obj} (h : KeepS S w w') (hb : w.heap[k]? = some o) (hg : ¬ S k) : w'.heap[k]? = some o := (h.block k (blk_lt hb) hg).trans hb
theorem KeepS.mono {T : Nat → Prop} {w w' : World} (h : KeepS S w w') (hT : ∀ k, S k → T k) : KeepS T w w' := ⟨h.os, h.tape, h.output, h.size, fun k hk hn => h.block k hk (fun hs => hn (hT k hs))⟩
end
theorem keep9c {W0 w' : World} {a0 a1 a2 a3 a4 a5 a6 a7 a8 : Addr} {v0 v1 v2 v3 v4 v5 v6 v7 v8 : Value} (h0 : W0.cell? a0 = some v0) (h1 : W0.cell? a1 = some v1) (h2 : W0.cell? a2 = some v2) (h3 : W0.cell? a3 = some v3) (h4 : W0.cell? a4 = some v4) (h5 : W0.cell? a5 = some v5) (h6 : W0.cell? a6 = some v6) (h7 : W0.cell? a7 = some v7) (h8 : W0.cell? a8 = some v8) (hb : Below W0.heap.size W0 w') : w'.cell? a0 = some v0 ∧ w'.cell? a1 = some v1 ∧ w'.cell? a2 = some v2 ∧ w'.cell? a3 = some v3 ∧ w'.cell? a4 = some v4 ∧ w'.cell? a5 = some v5 ∧ w'.cell? a6 = some v6 ∧ w'.cell? a7 = some v7 ∧ w'.cell? a8 = some v8 ∧ Below W0.heap.size W0 w' :=
  ⟨pw_cell_below hb h0, pw_cell_below hb h1, pw_cell_below hb h2, pw_cell_below hb h3, pw_cell_below hb h4, pw_cell_below hb h5, pw_cell_below hb h6, pw_cell_below hb h7, pw_cell_below hb h8, hb⟩
end Go.Proofs.YtpldcikmlpegpaaGreatDoor.PB
end
section
namespace Go.Proofs.YtpldcikmlpegpaaGreatDoor.PB
open Go.RowKit Go.Proofs.YtpldcikmlpegpaaGreatDoorW.PrintWords Go.Proofs.YtpldcikmlpegpaaGreatDoorW.PrintLast Go.Proofs.YtpldcikmlpegpaaGreatDoorW.PrintMore
attribute [local go_sem] max2_int min2_int max_two min_two
def strW (l : S47) : Int := wrap64 ((wrap64 ((wrap64 (10 * l.f0)) + l.f2)) - (wrap64 (40 * l.f1)))
theorem str_calls (l : S47) (w : World) :
    Calls Tryz.prog 42 #[.agg #[.int .i64 l.f0, .int .i64 l.f1, .int .i64 l.f2]] w fun e w' => e = .returned (.int .i64 (strW l)) ∧ Below w.heap.size w w' :=
  pack_strength.calls l.f0 l.f1 l.f2 (strW l) w rfl
def weak1 (l : List S47) (i load : Int) (x : S47) (s : Int × Int) : Int × Int :=
  if wrap64 (s.2 * strW x) < wrap64 (load * strW (l.getD s.1.toNat z47)) then (i, load) else s
set_option maxRecDepth 100000 in
set_option maxHeartbeats 1000000 in
theorem weak_calls (A : Option Addr) (cap : Nat) (l : List S47) (x : S47) (i load at_ most : Int) (b1 b2 b3 : Nat) (w : World) (hr : Kd.C k47 w A l.length l) (h0 : 0 ≤ at_) (h1 : at_ < l.length)
    (p1 : w.heap[b1]? = some (.cells #[.slice A l.length cap] 26 (0, 0))) (p2 : w.heap[b2]? = some (.cells #[.int .i64 at_] 3 (0, 0))) (p3 : w.heap[b3]? = some (.cells #[.int .i64 most] 3 (0, 0))) (h23 : b2 ≠ b3) (h12 : b1 ≠ b2) (h13 : b1 ≠ b3) :
    Calls Tryz.prog 41 #[.int .i64 i, .int .i64 load, .agg #[.int .i64 x.f0, .int .i64 x.f1, .int .i64 x.f2], .pointer (some ⟨b1, 0, none⟩), .pointer (some ⟨b2, 0, none⟩), .pointer (some ⟨b3, 0, none⟩)] w fun e w' => e = .returned (.bool true) ∧
      w'.heap[b2]? = some (.cells #[.int .i64 (weak1 l i load x (at_, most)).1] 3 (0, 0)) ∧ w'.heap[b3]? = some (.cells #[.int .i64 (weak1 l i load x (at_, most)).2] 3 (0, 0)) ∧ KeepS (fun k => k = b2 ∨ k = b3) w w' := by
  have hu24 := Tryz.underlying26
  have hu48 := Tryz.underlying47
  have HR := Aside0.mk hr
  have P1 := Aside0.mk p1
  have P2 := Aside0.mk p2
  have P3 := Aside0.mk p3
  have l1 := blk_lt p1
  have l2 := blk_lt p2
  have l3 := blk_lt p3
  clear hr p1 p2 p3
  go_enter Tryz.func41, Tryz.ntmps41
  go_wp2
  obtain ⟨B, hB⟩ : ∃ B, w.heap.size = B := ⟨_, rfl⟩
  have hbx := blk_new w (.cells #[.int .i64 x.f0, .int .i64 x.f1, .int .i64 x.f2] 47 (0, 0))
  have hbl := (Below.refl w.heap.size w).alloc (Nat.le_refl _) (.cells #[.int .i64 x.f0, .int .i64 x.f1, .int .i64 x.f2] 47 (0, 0))
  generalize w.alloc (.cells #[.int .i64 x.f0, .int .i64 x.f1, .int .i64 x.f2] 47 (0, 0)) = W0 at hbx hbl ⊢
  have HBL := Aside0.mk hbl
  obtain ⟨ad, rfl, y0, y1, y2⟩ := at_T47 (Kd.C_below HR.out hbl) at_ h0 h1
  obtain ⟨y, hy⟩ : ∃ y, rd_T47 l at_ = y := ⟨_, rfl⟩
  rw [hy] at y0 y1 y2
  have HY : Aside0 (l.getD at_.toNat z47 = y) := ⟨hy⟩
  have g1 : W0.cell? ⟨b1, 0, none⟩ = some (.slice (some ad) l.length cap) := (blk_cell (blk_below P1.out hbl) 0).trans rfl
  have g2 : W0.cell? ⟨b2, 0, none⟩ = some (.int .i64 at_) := (blk_cell (blk_below P2.out hbl) 0).trans rfl
  have g3 : W0.cell? ⟨b3, 0, none⟩ = some (.int .i64 most) := (blk_cell (blk_below P3.out hbl) 0).trans rfl
  rw [hB] at hbx ⊢
  have g4 : W0.cell? ⟨B, 0, none⟩ = some (.int .i64 x.f0) := (blk_cell hbx 0).trans rfl
  have g5 : W0.cell? ⟨B, 1, none⟩ = some (.int .i64 x.f1) := (blk_cell hbx 1).trans rfl
  have g6 : W0.cell? ⟨B, 2, none⟩ = some (.int .i64 x.f2) := (blk_cell hbx 2).trans rfl
  have q0 := eq_true h0
  have q1 := eq_true h1
  clear hbx hbl hy h0 h1
  go_region_held3 (fun w' => w'.cell? ⟨b1, 0, none⟩ = some (.slice (some ad) l.length cap) ∧ w'.cell? ⟨b2, 0, none⟩ = some (.int .i64 at_) ∧ w'.cell? ⟨b3, 0, none⟩ = some (.int .i64 most) ∧ w'.cell? ⟨B, 0, none⟩ = some (.int .i64 x.f0) ∧ w'.cell? ⟨B, 1, none⟩ = some (.int .i64 x.f1) ∧ w'.cell? ⟨B, 2, none⟩ = some (.int .i64 x.f2) ∧ w'.cell? (ad.add (at_.toNat * 3)) = some (.int .i64 y.f0) ∧ w'.cell? ⟨(ad.add (at_.toNat * 3)).block, (ad.add (at_.toNat * 3)).off + 1, none⟩ = some (.int .i64 y.f1) ∧ w'.cell? ⟨(ad.add (at_.toNat * 3)).block, (ad.add (at_.toNat * 3)).off + 2, none⟩ = some (.int .i64 y.f2) ∧ Below W0.heap.size W0 w')
    ((go_split_ands; refine keep9c g1 g2 g3 g4 g5 g6 y0 y1 y2 ?_; first | assumption | exact (Below.refl _ _).drew | exact below_step (by assumption) (by assumption)))
    (first | (go_at_call 42; (with_reducible refine (str_calls y _).mono ?_); rintro e w' ⟨rfl, hb⟩) | (go_at_call 42; (with_reducible refine (str_calls x _).mono ?_); rintro e w' ⟨rfl, hb⟩))
  rename_i w8 hb8 hHeld
  obtain ⟨s1, s2, s3, s4, s5, s6, s7, s8, s9, hB2⟩ := hHeld
  have HB2 := Aside0.mk hB2
  have HBw := Aside0.mk hB
  have HP2 := Aside0.mk (blk_below (blk_below P2.out HBL.out) hB2)
  have HP3 := Aside0.mk (blk_below (blk_below P3.out HBL.out) hB2)
  have f2 := blk_frozen HP2.out 0
  have f3 := blk_frozen HP3.out 0
  clear g1 g2 g3 g4 g5 g6 y0 y1 y2 s1 s4 s5 s6 s7 s8 s9 hB2 hb8 hb hB
  simp only [i64_w]
  by_cases ht : wrap64 (most * strW x) < wrap64 (load * strW y)
  · have z0 : decide (wrap64 (most * strW x) < wrap64 (load * strW y)) = true := decide_eq_true ht
    have HW : Aside0 (weak1 l i load x (at_, most) = (i, load)) := ⟨by simp only [weak1, HY.out, if_pos ht]⟩
    clear ht
    rw [z0]
    go_wp2
    go_ret
    rw [HW.out]
    refine ⟨rfl, ?_, ?_, ?_⟩
    · exact blk_far (blk_put (cs := #[.int .i64 at_]) HP2.out 0 _ rfl) h23 _
    · exact blk_put (cs := #[.int .i64 most]) (blk_far HP3.out (Ne.symm h23) _) 0 _ rfl
    · exact ((KeepS.of_below HBL.out).trans (KeepS.of_below HB2.out)).trans ((KeepS.set (.inl rfl) _ _ _).trans (KeepS.set (.inr rfl) _ _ _))
  · have z0 : decide (wrap64 (most * strW x) < wrap64 (load * strW y)) = false := decide_eq_false ht
    have HW : Aside0 (weak1 l i load x (at_, most) = (at_, most)) := ⟨by simp only [weak1, HY.out, if_neg ht]⟩
    clear ht
    rw [z0]
    go_wp2
    go_ret
    rw [HW.out]
    exact ⟨rfl, HP2.out, HP3.out, (KeepS.of_below HBL.out).trans (KeepS.of_below HB2.out)⟩
theorem read_keep {w w' : World} {A : Option Addr} {l : List S47} {b2 b3 : Nat} (hr : Kd.C k47 w A l.length l) (hk : KeepS (fun k => k = b2 ∨ k = b3) w w') (hd : 0 < l.length → ∀ ad, A = some ad → ad.block ≠ b2 ∧ ad.block ≠ b3) : Kd.C k47 w' A l.length l := by
  refine ⟨hr.1, hr.2.1, fun hn => ?_⟩
  obtain ⟨ad, e, hc⟩ := hr.2.2 hn
  refine ⟨ad, e, fun j p hj => ?_⟩
  obtain ⟨c, h1, h2, h3⟩ := hc j p hj
  refine ⟨c, h1, h2, fun i u hu => ?_⟩
  have hcell := h3 i u hu
  have hlt := World.block_lt_of_cell? w _ hcell
  have hb : (ad.add (j * k47.sz + i)).block = ad.block := by unfold Addr.add; split <;> rfl
  have hne := hd hn ad e
  unfold World.cell? at hcell ⊢
  rw [hk.block _ hlt (by rw [hb]; intro h; rcases h with h | h; exact hne.1 h; exact hne.2 h)]
  exact hcell
def weakAt (l : List S47) : Nat → Nat → Int → Int × Int → Int × Int
  | 0, _, _, s => s
  | d + 1, i, load, s => weakAt l d (i + 1) (wrap64 (load + wrap64 ((l.getD i z47).f0 + (l.getD i z47).f1))) (weak1 l i load (l.getD i z47) s)
set_option maxRecDepth 100000 in
set_option maxHeartbeats 1000000 in
theorem each_weak (A : Option Addr) (cap : Nat) (l : List S47) (at_ most : Int) (b1 b2 b3 : Nat) (w : World) (hr : Kd.C k47 w A l.length l) (h0 : 0 ≤ at_) (h1 : at_ < l.length)
    (p1 : w.heap[b1]? = some (.cells #[.slice A l.length cap] 26 (0, 0))) (p2 : w.heap[b2]? = some (.cells #[.int .i64 at_] 3 (0, 0))) (p3 : w.heap[b3]? = some (.cells #[.int .i64 most] 3 (0, 0))) (h23 : b2 ≠ b3) (h12 : b1 ≠ b2) (h13 : b1 ≠ b3)
    (hd : 0 < l.length → ∀ ad, A = some ad → ad.block ≠ b2 ∧ ad.block ≠ b3) :
    Calls Tryz.prog 40 #[.agg #[.slice A l.length cap], .func (.func 41) #[] #[.pointer (some ⟨b1, 0, none⟩), .pointer (some ⟨b2, 0, none⟩), .pointer (some ⟨b3, 0, none⟩)]] w fun e w' => e = .returned (.tuple #[]) ∧
      w'.heap[b2]? = some (.cells #[.int .i64 (weakAt l l.length 0 0 (at_, most)).1] 3 (0, 0)) ∧ w'.heap[b3]? = some (.cells #[.int .i64 (weakAt l l.length 0 0 (at_, most)).2] 3 (0, 0)) ∧ KeepS (fun k => k = b2 ∨ k = b3) w w' := by
  have hu24 := Tryz.underlying26
  have hu48 := Tryz.underlying47
  have HR := Aside0.mk hr
  have P1 := Aside0.mk p1
  have P2 := Aside0.mk p2
  have P3 := Aside0.mk p3
  have hlen : l.length ≤ 9223372036854775807 := hr.2.1
  clear hr p1 p2 p3
  go_enter Tryz.func40, Tryz.ntmps40
  go_wp2
  go_loopg [4, 10] l.length (fun dq v4 v10 w' => ∃ (j : Nat) (load : Int) (s : Int × Int), v4 = .int .i64 load ∧ v10 = .int .i64 j ∧ j ≤ l.length ∧ dq = l.length - j ∧ 0 ≤ s.1 ∧ s.1 < l.length ∧ Aside0 (weakAt l dq j load s = weakAt l l.length 0 0 (at_, most)) ∧
    Aside0 (w'.heap[b2]? = some (.cells #[.int .i64 s.1] 3 (0, 0))) ∧ Aside0 (w'.heap[b3]? = some (.cells #[.int .i64 s.2] 3 (0, 0))) ∧ Aside0 (KeepS (fun k => k = b2 ∨ k = b3) w w'))
  case atStart => exact ⟨0, 0, (at_, most), rfl, rfl, Nat.zero_le _, rfl, h0, h1, ⟨rfl⟩, ⟨blk_alloc P2.out _⟩, ⟨blk_alloc P3.out _⟩, ⟨KeepS.alloc _ _⟩⟩
  case round =>
    obtain ⟨j, load, ⟨sa, sm⟩, rfl, rfl, hj, hdq, s0, s1, HE, Q2, Q3, HK⟩ := hrel
    have HRj : Aside0 (Kd.C k47 wr A l.length l) := ⟨read_keep HR.out HK.out hd⟩
    by_cases hlt : j < l.length
    · have t1 : decide (j < l.length) = true := decide_eq_true hlt
      obtain ⟨ad, hA, y0, y1, y2⟩ := at_T47 HRj.out (j : Int) (by omega) (by omega)
      subst hA
      obtain ⟨y, hy⟩ : ∃ y, rd_T47 l (j : Int) = y := ⟨_, rfl⟩
      rw [hy] at y0 y1 y2
      simp only [Int.toNat_natCast] at y0 y1 y2
      have HY : Aside0 (l.getD j z47 = y) := ⟨hy⟩
      clear hy
      go_upto_region 5 with (fail)
      obtain ⟨p, hp⟩ : ∃ p, wr.heap.size = p := ⟨_, rfl⟩
      have hbx := blk_new wr (.cells #[.int .i64 y.f0, .int .i64 y.f1, .int .i64 y.f2] 47 (0, 0))
      have hbl := (Below.refl wr.heap.size wr).alloc (Nat.le_refl _) (.cells #[.int .i64 y.f0, .int .i64 y.f1, .int .i64 y.f2] 47 (0, 0))
      generalize wr.alloc (.cells #[.int .i64 y.f0, .int .i64 y.f1, .int .i64 y.f2] 47 (0, 0)) = W3 at hbx hbl ⊢
      have HBL := Aside0.mk hbl
      have hne : p ≠ b2 ∧ p ≠ b3 := by have h2 := blk_lt P2.out; have h3 := blk_lt P3.out; have := HK.out.size; omega
      have HNE := Aside0.mk hne
      rw [hp] at hbx ⊢
      have HBX := Aside0.mk hbx
      have HP1 : Aside0 (W3.heap[b1]? = some (.cells #[.slice (some ad) l.length cap] 26 (0, 0))) := ⟨blk_below (HK.out.blk P1.out (by omega)) hbl⟩
      have HQ2 := Aside0.mk (blk_below Q2.out hbl)
      have HQ3 := Aside0.mk (blk_below Q3.out hbl)
      have HR3 := Aside0.mk (Kd.C_below HRj.out hbl)
      have c0 : W3.cell? ⟨p, 0, none⟩ = some (.int .i64 y.f0) := (blk_cell hbx 0).trans rfl
      have c1 : W3.cell? ⟨p, 1, none⟩ = some (.int .i64 y.f1) := (blk_cell hbx 1).trans rfl
      have c2 : W3.cell? ⟨p, 2, none⟩ = some (.int .i64 y.f2) := (blk_cell hbx 2).trans rfl
      clear hbx hbl hne hp y0 y1 y2
      go_wp2_with (first | (go_at_call 41; refine (weak_calls (some ad) cap l y (j : Int) load sa sm b1 b2 b3 _ HR3.out s0 s1 HP1.out HQ2.out HQ3.out h23 h12 h13).mono ?_; rintro e w4 ⟨rfl, g2, g3, gk⟩; have G2 := Aside0.mk g2; have G3 := Aside0.mk g3; have GK := Aside0.mk gk; have hbx4 := gk.blk HBX.out (fun h => by have := HNE.out; omega); have d0 : w4.cell? ⟨p, 0, none⟩ = some (.int .i64 y.f0) := (blk_cell hbx4 0).trans rfl; have d1 : w4.cell? ⟨p, 1, none⟩ = some (.int .i64 y.f1) := (blk_cell hbx4 1).trans rfl; clear g2 g3 gk hbx4 c0 c1 c2))
      go_roundg (l.length - (j + 1))
      case measure => omega
      case rel =>
        refine ⟨j + 1, wrap64 (load + wrap64 (y.f0 + y.f1)), weak1 l j load y (sa, sm), rfl, by go_num, by omega, rfl, ?_, ?_, ⟨?_⟩, G2, G3, ⟨(HK.out.trans (KeepS.of_below HBL.out)).trans GK.out⟩⟩
        · unfold weak1; split
          · dsimp only; omega
          · exact s0
        · unfold weak1; split
          · dsimp only; omega
          · exact s1
        · have e : gk = (l.length - (j + 1)) + 1 := by omega
          rw [← HE.out, e]
          simp only [weakAt, HY.out]
    · have t1 : decide (j < l.length) = false := decide_eq_false hlt
      go_wp2
      go_end0
      have e : gk = 0 := by omega
      have h := HE.out
      rw [e] at h
      rw [← h]
      exact ⟨rfl, Q2.out, Q3.out, HK.out⟩
def brk1 (steep load : Int) (x : S47) : Bool := decide (wrap64 (3 * strW x) < wrap64 (load * wrap64 (steep - 25)))
set_option maxRecDepth 100000 in
set_option maxHeartbeats 1000000 in
theorem brk_calls (x : S47) (i load steep : Int) (bv : Bool) (b1 b2 : Nat) (w : World)
    (p1 : w.heap[b1]? = some (.cells #[.int .i64 steep] 3 (0, 0))) (p2 : w.heap[b2]? = some (.cells #[.bool bv] 4 (0, 0))) (_h12 : b1 ≠ b2) :
    Calls Tryz.prog 65 #[.int .i64 i, .int .i64 load, .agg #[.int .i64 x.f0, .int .i64 x.f1, .int .i64 x.f2], .pointer (some ⟨b1, 0, none⟩), .pointer (some ⟨b2, 0, none⟩)] w fun e w' => e = .returned (.bool (!brk1 steep load x)) ∧
      w'.heap[b2]? = some (.cells #[.bool (brk1 steep load x)] 4 (0, 0)) ∧ KeepS (fun k => k = b2) w w' := by
  have hu48 := Tryz.underlying47
  have P1 := Aside0.mk p1
  have P2 := Aside0.mk p2
  have l1 := blk_lt p1
  have l2 := blk_lt p2
  clear p1 p2
  go_enter Tryz.func65, Tryz.ntmps65
  go_upto_region 1 with (fail)
  obtain ⟨B, hB⟩ : ∃ B, w.heap.size = B := ⟨_, rfl⟩
  have hbx := blk_new w (.cells #[.int .i64 x.f0, .int .i64 x.f1, .int .i64 x.f2] 47 (0, 0))
  have hbl := (Below.refl w.heap.size w).alloc (Nat.le_refl _) (.cells #[.int .i64 x.f0, .int .i64 x.f1, .int .i64 x.f2] 47 (0, 0))
  generalize w.alloc (.cells #[.int .i64 x.f0, .int .i64 x.f1, .int .i64 x.f2] 47 (0, 0)) = W0 at hbx hbl ⊢
  have HBL := Aside0.mk hbl
  have HP1 := Aside0.mk (blk_below P1.out hbl)
  have HP2 := Aside0.mk (blk_below P2.out hbl)
  rw [hB] at hbx ⊢
  have g1 : W0.cell? ⟨b1, 0, none⟩ = some (.int .i64 steep) := (blk_cell HP1.out 0).trans rfl
  have g2 : W0.cell? ⟨b2, 0, none⟩ = some (.bool bv) := (blk_cell HP2.out 0).trans rfl
  have f2 := blk_frozen HP2.out 0
  have g4 : W0.cell? ⟨B, 0, none⟩ = some (.int .i64 x.f0) := (blk_cell hbx 0).trans rfl
  have g5 : W0.cell? ⟨B, 1, none⟩ = some (.int .i64 x.f1) := (blk_cell hbx 1).trans rfl
  have g6 : W0.cell? ⟨B, 2, none⟩ = some (.int .i64 x.f2) := (blk_cell hbx 2).trans rfl
  clear hbx hbl hB l1 l2
  go_region_with (go_at_call 42; (with_reducible refine (str_calls x _).mono ?_); rintro e w' ⟨rfl, hb⟩; have HB' : Aside0 (Below W0.heap.size W0 w') := ⟨Below.trans ((Below.refl _ _).drew) hb⟩; have k1 := pw_cell_below HB'.out g1; have k2 := pw_cell_below HB'.out g2; have k4 := blk_frozen (blk_below HP2.out HB'.out) 0; clear hb)
  all_goals
    simp only [i64_w]
    obtain ⟨z, hz⟩ : ∃ z, decide (wrap64 (3 * strW x) < wrap64 (load * wrap64 (steep - 25))) = z := ⟨_, rfl⟩
    rw [hz]
    have HZ : Aside0 (brk1 steep load x = z) := ⟨hz⟩
    have hp5 := blk_put (cs := #[.bool bv]) (blk_below HP2.out HB'.out) 0 (.bool z) rfl
    obtain ⟨W5, hW5⟩ : ∃ W5, w'.setCell ⟨b2, 0, none⟩ (.bool z) = W5 := ⟨_, rfl⟩
    have HK5 : Aside0 (KeepS (fun k => k = b2) w W5) := ⟨by rw [← hW5]; exact ((KeepS.of_below HBL.out).trans (KeepS.of_below HB'.out)).trans (KeepS.set (S := fun k => k = b2) rfl _ _ _)⟩
    rw [hW5] at hp5 ⊢
    have c2 : W5.cell? ⟨b2, 0, none⟩ = some (.bool z) := (blk_cell hp5 0).trans rfl
    have HP5 := Aside0.mk hp5
    clear hz hW5 hp5 k1 k2 k4 g1 g2 f2 g4 g5 g6
    go_wp2
    go_ret
    exact ⟨by rw [HZ.out]; rfl, by rw [HZ.out]; exact HP5.out, HK5.out⟩
def brkAt (steep : Int) (l : List S47) : Nat → Nat → Int → Bool → Bool
  | 0, _, _, b => b
  | d + 1, i, load, _ => if brk1 steep load (l.getD i z47) = true then true else brkAt steep l d (i + 1) (wrap64 (load + wrap64 ((l.getD i z47).f0 + (l.getD i z47).f1))) false
set_option maxRecDepth 100000 in
set_option maxHeartbeats 1000000 in
theorem each_brk (A : Option Addr) (cap : Nat) (l : List S47) (steep : Int) (bv : Bool) (b1 b2 : Nat) (w : World) (hr : Kd.C k47 w A l.length l)
    (p1 : w.heap[b1]? = some (.cells #[.int .i64 steep] 3 (0, 0))) (p2 : w.heap[b2]? = some (.cells #[.bool bv] 4 (0, 0))) (h12 : b1 ≠ b2)
    (hd : 0 < l.length → ∀ ad, A = some ad → ad.block ≠ b2) :
    Calls Tryz.prog 40 #[.agg #[.slice A l.length cap], .func (.func 65) #[] #[.pointer (some ⟨b1, 0, none⟩), .pointer (some ⟨b2, 0, none⟩)]] w fun e w' => e = .returned (.tuple #[]) ∧
      w'.heap[b2]? = some (.cells #[.bool (brkAt steep l l.length 0 0 bv)] 4 (0, 0)) ∧ KeepS (fun k => k = b2) w w' := by
  have hu24 := Tryz.underlying26
  have hu48 := Tryz.underlying47
  have HR := Aside0.mk hr
  have P1 := Aside0.mk p1
  have P2 := Aside0.mk p2
  have hlen : l.length ≤ 9223372036854775807 := hr.2.1
  clear hr p1 p2
  go_enter Tryz.func40, Tryz.ntmps40
  go_wp2
  go_loopg [4, 10] l.length (fun dq v4 v10 w' => ∃ (j : Nat) (load : Int) (s : Bool), v4 = .int .i64 load ∧ v10 = .int .i64 j ∧ j ≤ l.length ∧ dq = l.length - j ∧ Aside0 (brkAt steep l dq j load s = brkAt steep l l.length 0 0 bv) ∧
    Aside0 (w'.heap[b2]? = some (.cells #[.bool s] 4 (0, 0))) ∧ Aside0 (KeepS (fun k => k = b2) w w') ∧ Aside0 (j ≠ 0 → s = false))
  case atStart => exact ⟨0, 0, bv, rfl, rfl, Nat.zero_le _, rfl, ⟨rfl⟩, ⟨blk_alloc P2.out _⟩, ⟨KeepS.alloc _ _⟩, ⟨fun h => absurd rfl h⟩⟩
  case round =>
    obtain ⟨j, load, s, rfl, rfl, hj, hdq, HE, Q2, HK, HS⟩ := hrel
    have HRj : Aside0 (Kd.C k47 wr A l.length l) := ⟨read_keep (b2 := b2) (b3 := b2) HR.out (HK.out.mono (fun k hk => .inl hk)) (fun h0 ad e => ⟨hd h0 ad e, hd h0 ad e⟩)⟩
    by_cases hlt : j < l.length
    · have t1 : decide (j < l.length) = true := decide_eq_true hlt
      obtain ⟨ad, hA, y0, y1, y2⟩ := at_T47 HRj.out (j : Int) (by omega) (by omega)
      subst hA
      obtain ⟨y, hy⟩ : ∃ y, rd_T47 l (j : Int) = y := ⟨_, rfl⟩
      rw [hy] at y0 y1 y2
      simp only [Int.toNat_natCast] at y0 y1 y2
      have HY : Aside0 (l.getD j z47 = y) := ⟨hy⟩
      clear hy
      go_upto_region 5 with (fail)
      obtain ⟨p, hp⟩ : ∃ p, wr.heap.size = p := ⟨_, rfl⟩
      have hbx := blk_new wr (.cells #[.int .i64 y.f0, .int .i64 y.f1, .int .i64 y.f2] 47 (0, 0))
      have hbl := (Below.refl wr.heap.size wr).alloc (Nat.le_refl _) (.cells #[.int .i64 y.f0, .int .i64 y.f1, .int .i64 y.f2] 47 (0, 0))
      generalize wr.alloc (.cells #[.int .i64 y.f0, .int .i64 y.f1, .int .i64 y.f2] 47 (0, 0)) = W3 at hbx hbl ⊢
      have HBL := Aside0.mk hbl
      have HNE : Aside0 (p ≠ b2) := ⟨by have h2 := blk_lt P2.out; have := HK.out.size; omega⟩
      rw [hp] at hbx ⊢
      have HBX := Aside0.mk hbx
      have HP1 : Aside0 (W3.heap[b1]? = some (.cells #[.int .i64 steep] 3 (0, 0))) := ⟨blk_below (HK.out.blk P1.out h12) hbl⟩
      have HQ2 := Aside0.mk (blk_below Q2.out hbl)
      have c0 : W3.cell? ⟨p, 0, none⟩ = some (.int .i64 y.f0) := (blk_cell hbx 0).trans rfl
      have c1 : W3.cell? ⟨p, 1, none⟩ = some (.int .i64 y.f1) := (blk_cell hbx 1).trans rfl
      have c2 : W3.cell? ⟨p, 2, none⟩ = some (.int .i64 y.f2) := (blk_cell hbx 2).trans rfl
      clear hbx hbl hp y0 y1 y2
      obtain ⟨z, hz⟩ : ∃ z, brk1 steep load y = z := ⟨_, rfl⟩
      have HZ := Aside0.mk hz
      clear hz
      go_upto_if 20 with (first | (go_at_call 65; refine (brk_calls y (j : Int) load steep s b1 b2 _ HP1.out HQ2.out h12).mono ?_; rintro e w4 ⟨rfl, g2, gk⟩; rw [HZ.out] at g2; have G2 := Aside0.mk g2; have GK := Aside0.mk gk; have hbx4 := gk.blk HBX.out HNE.out; have d0 : w4.cell? ⟨p, 0, none⟩ = some (.int .i64 y.f0) := (blk_cell hbx4 0).trans rfl; have d1 : w4.cell? ⟨p, 1, none⟩ = some (.int .i64 y.f1) := (blk_cell hbx4 1).trans rfl; clear g2 gk hbx4 c0 c1 c2; rw [HZ.out]))
      have e : gk = (l.length - (j + 1)) + 1 := by omega
      have HH := HE.out
      rw [e] at HH
      simp only [brkAt, HY.out, HZ.out] at HH
      have HA := Aside0.mk HH
      clear HH e
      cases z with
      | true =>
        go_wp2
        refine bodyPost_ret (v := .tuple #[]) (results_none rfl _ _ _) rfl ⟨rfl, ?_, (HK.out.trans (KeepS.of_below HBL.out)).trans GK.out⟩
        have h := HA.out
        simp only [if_true] at h
        rw [← h]
        exact G2.out
      | false =>
        go_wp2
        go_roundg (l.length - (j + 1))
        case measure => omega
        case rel =>
          refine ⟨j + 1, wrap64 (load + wrap64 (y.f0 + y.f1)), false, rfl, by go_num, by omega, rfl, ⟨?_⟩, G2, ⟨(HK.out.trans (KeepS.of_below HBL.out)).trans GK.out⟩, ⟨fun _ => rfl⟩⟩
          have h := HA.out
          simp only [Bool.false_eq_true, if_false] at h
          exact h
    · have t1 : decide (j < l.length) = false := decide_eq_false hlt
      go_wp2
      go_end0
      have e : gk = 0 := by omega
      have h := HE.out
      rw [e] at h
      rw [← h]
      exact ⟨rfl, Q2.out, HK.out⟩
end Go.Proofs.YtpldcikmlpegpaaGreatDoor.PB
end
section
namespace Go.Proofs.YtpldcikmlpegpaaGreatDoor.PB
open Go.RowKit Go.Proofs.YtpldcikmlpegpaaGreatDoorW.PrintWords Go.Proofs.YtpldcikmlpegpaaGreatDoorW.PrintLast Go.Proofs.YtpldcikmlpegpaaGreatDoorW.PrintMore
attribute [local go_sem] max2_int min2_int max_two min_two
def pack_Weakest.f (l : List S47) : Option (Int × Int × Int) :=
  (pack_Check.f 200 l).bind fun e => if e = 0 then (if l.length = 0 then some (0, 0, 4) else some ((weakAt l l.length 0 0 (0, 0)).1, (weakAt l l.length 0 0 (0, 0)).2, 0)) else some (0, 0, e)
def pack_breaks.f (l : List S47) (steep : Int) : Option Bool := some (brkAt steep l l.length 0 0 false)
set_option maxRecDepth 100000 in
set_option maxHeartbeats 1000000 in
theorem pack_breaks.calls (A0_0 : Option Addr) (c0_0 : Nat) (l0_0 : List (S47)) (a1 : Int) (r : Bool) (w : World) (hr0_0 : Kd.C k47 w A0_0 l0_0.length l0_0) (_hc0_0 : l0_0.length ≤ c0_0) (h : pack_breaks.f l0_0 a1 = some r) :
    Calls Tryz.prog 43 #[.agg #[.slice A0_0 l0_0.length c0_0], .int .i64 a1] w fun e w' => e = .returned (.bool r) ∧ Below w.heap.size w w' := by
  have hu24 := Tryz.underlying26
  have HR := Aside0.mk hr0_0
  have HZ := Aside0.mk (Option.some.inj h)
  have HA : Aside0 (0 < l0_0.length → ∀ ad, A0_0 = some ad → ad.block < w.heap.size) := ⟨fun h0 ad e => by
    obtain ⟨ad', e', hc, _⟩ := at_T47 hr0_0 0 (Int.le_refl _) (by omega)
    rw [e] at e'
    cases e'
    have := World.block_lt_of_cell? w _ hc
    have hb : (ad.add ((0 : Int).toNat * 3)).block = ad.block := by unfold Addr.add; split <;> rfl
    rwa [hb] at this⟩
  clear hr0_0 h
  go_enter Tryz.func43, Tryz.ntmps43
  go_upto_region 1 with (fail)
  obtain ⟨B, hB⟩ : ∃ B, w.heap.size = B := ⟨_, rfl⟩
  obtain ⟨V1, hV1⟩ : ∃ W1, w.alloc (.cells #[.slice A0_0 l0_0.length c0_0] 26 (0, 0)) = W1 := ⟨_, rfl⟩
  obtain ⟨V2, hV2⟩ : ∃ W1, V1.alloc (.cells #[.int .i64 a1] 3 (0, 0)) = W1 := ⟨_, rfl⟩
  obtain ⟨W1, hW1⟩ : ∃ W1, V2.alloc (.cells #[.bool false] 4 (0, 0)) = W1 := ⟨_, rfl⟩
  have s1 : V1.heap.size = B + 1 := by rw [← hV1, ← hB]; simp
  have s2 : V2.heap.size = B + 2 := by rw [← hV2]; simp [s1]
  have b1 : Below B w V1 := by rw [← hV1, ← hB]; exact (Below.refl _ _).alloc (Nat.le_refl _) _
  have b2 : Below B w V2 := by rw [← hV2]; exact b1.alloc (by omega) _
  have b3 : Below B w W1 := by rw [← hW1]; exact b2.alloc (by omega) _
  have p0 : W1.heap[B]? = some (.cells #[.slice A0_0 l0_0.length c0_0] 26 (0, 0)) := by rw [← hW1]; refine blk_alloc ?_ _; rw [← hV2]; refine blk_alloc ?_ _; rw [← hV1, ← hB]; exact blk_new _ _
  have p1 : W1.heap[B + 1]? = some (.cells #[.int .i64 a1] 3 (0, 0)) := by rw [← hW1]; refine blk_alloc ?_ _; rw [← hV2, ← s1]; exact blk_new _ _
  have p2 : W1.heap[B + 1 + 1]? = some (.cells #[.bool false] 4 (0, 0)) := by rw [← hW1, show B + 1 + 1 = V2.heap.size from s2.symm]; exact blk_new _ _
  rw [hV1, hV2, hW1, hB]
  have P1 := Aside0.mk p1
  have P2 := Aside0.mk p2
  have HB3 := Aside0.mk b3
  have HBq := Aside0.mk hB
  have q0 : W1.cell? ⟨B, 0, none⟩ = some (.slice A0_0 l0_0.length c0_0) := (blk_cell p0 0).trans rfl
  have HS1 : Aside0 (B + 1 ≤ W1.heap.size) := ⟨by have := blk_lt p1; omega⟩
  clear hV1 hV2 hW1 s1 s2 b1 b2 b3 p0 p1 p2 hB
  have HR1 : Aside0 (Kd.C k47 W1 A0_0 l0_0.length l0_0) := ⟨Kd.C_below HR.out (by rw [HBq.out]; exact HB3.out)⟩
  have HD1 : Aside0 (0 < l0_0.length → ∀ ad, A0_0 = some ad → ad.block ≠ B + 1 + 1) := ⟨fun h0 ad e => by have := HA.out h0 ad e; have := HBq.out; omega⟩
  go_upto_region 2 with (first | (go_at_call 40; refine (each_brk A0_0 c0_0 l0_0 a1 false (B + 1) (B + 1 + 1) _ HR1.out P1.out P2.out (by omega) HD1.out).mono ?_; rintro e w4 ⟨rfl, g2, gk⟩; have G2 := Aside0.mk g2; have GK := Aside0.mk gk; have c4 : w4.cell? ⟨B + 1 + 1, 0, none⟩ = some (.bool (brkAt a1 l0_0 l0_0.length 0 0 false)) := (blk_cell g2 0).trans rfl; have f4 := blk_frozen g2 0; clear g2 gk))
  obtain ⟨z, hz⟩ : ∃ z, brkAt a1 l0_0 l0_0.length 0 0 false = z := ⟨_, rfl⟩
  rw [hz] at c4 G2 HZ
  clear hz q0
  obtain rfl := HZ.out
  go_wp2
  have hc := (blk_cell (blk_put (cs := #[.bool z]) G2.out 0 (.bool z) rfl) 0)
  refine bodyPost_ret (v := .bool z) (by simp [results, Tryz.results43, go_sem, hc]) rfl ⟨rfl, ?_⟩
  rw [HBq.out]
  refine Below.setCell (p := ⟨B + 1 + 1, 0, none⟩) ?_ (by show B ≤ B + 1 + 1; omega) _
  exact GK.out.below HB3.out (fun k hk => by omega) (by have := HS1.out; omega)
set_option maxRecDepth 100000 in
set_option maxHeartbeats 1000000 in
theorem pack_Weakest.calls (A0_0 : Option Addr) (c0_0 : Nat) (l0_0 : List (S47)) (r1 : Int) (r2 : Int) (r3 : Int) (w : World) (hr0_0 : Kd.C k47 w A0_0 l0_0.length l0_0) (hc0_0 : l0_0.length ≤ c0_0) (h : pack_Weakest.f l0_0 = some (r1, r2, r3)) :
    Calls Tryz.prog 19 #[.agg #[.slice A0_0 l0_0.length c0_0]] w fun e w' => e = .returned (.tuple #[.int .i64 r1, .int .i64 r2, .int .i64 r3]) ∧ Below w.heap.size w w' := by
  have hu24 := Tryz.underlying26
  have HR := Aside0.mk hr0_0
  have HC := Aside0.mk hc0_0
  have HA : Aside0 (0 < l0_0.length → ∀ ad, A0_0 = some ad → ad.block < w.heap.size) := ⟨fun h0 ad e => by
    obtain ⟨ad', e', hc, _⟩ := at_T47 hr0_0 0 (Int.le_refl _) (by omega)
    rw [e] at e'
    cases e'
    have := World.block_lt_of_cell? w _ hc
    have hb : (ad.add ((0 : Int).toNat * 3)).block = ad.block := by unfold Addr.add; split <;> rfl
    rwa [hb] at this⟩
  unfold pack_Weakest.f at h
  replace h := Option.bind_eq_some_iff.mp h
  obtain ⟨e1, E1, h⟩ := h
  have HE1 := Aside0.mk E1
  have HH := Aside0.mk h
  clear hr0_0 hc0_0 h E1
  go_enter Tryz.func19, Tryz.ntmps19
  go_upto_region 1 with (fail)
  obtain ⟨B, hB⟩ : ∃ B, w.heap.size = B := ⟨_, rfl⟩
  obtain ⟨W0, hW0⟩ : ∃ W1, w.alloc (.cells #[.slice A0_0 l0_0.length c0_0] 26 (0, 0)) = W1 := ⟨_, rfl⟩
  have s1 : W0.heap.size = B + 1 := by rw [← hW0, ← hB]; simp
  have b1 : Below B w W0 := by rw [← hW0, ← hB]; exact (Below.refl _ _).alloc (Nat.le_refl _) _
  have p0 : W0.heap[B]? = some (.cells #[.slice A0_0 l0_0.length c0_0] 26 (0, 0)) := by rw [← hW0, ← hB]; exact blk_new _ _
  rw [hW0, hB]
  have P0 := Aside0.mk p0
  have HB1 := Aside0.mk b1
  have HBq := Aside0.mk hB
  have HS0 := Aside0.mk s1
  have HR0 : Aside0 (Kd.C k47 W0 A0_0 l0_0.length l0_0) := ⟨Kd.C_below HR.out (by rw [HBq.out]; exact HB1.out)⟩
  have q0 : W0.cell? ⟨B, 0, none⟩ = some (.slice A0_0 l0_0.length c0_0) := (blk_cell p0 0).trans rfl
  clear hW0 s1 b1 p0 hB
  go_upto_if 11 with (first | (go_at_call 32; refine (pack_Check.calls 200 A0_0 c0_0 l0_0 e1 _ HR0.out HC.out HE1.out).mono ?_; rintro e w7 ⟨rfl, hb⟩; have HB7 := Aside0.mk hb; have q7 := pw_cell_below hb q0; clear hb q0))
  have HBw : Aside0 (Below B w w7) := ⟨HB1.out.trans (HB7.out.mono (by rw [HS0.out]; omega))⟩
  by_cases h1 : e1 = 0
  · have z0 : (e1 != 0) = false := by simp [h1]
    have h2 := HH.out
    rw [if_pos h1] at h2
    by_cases hl : l0_0.length = 0
    · rw [if_pos hl] at h2
      simp only [Option.some.injEq, Prod.mk.injEq] at h2
      obtain ⟨rfl, rfl, rfl⟩ := h2
      have z1 : ((l0_0.length : Int) == 0) = true := by simp [hl]
      clear hl h1
      go_wp2
      all_goals (go_ret3; exact ⟨rfl, by rw [HBq.out]; exact HBw.out⟩)
    · rw [if_neg hl] at h2
      simp only [Option.some.injEq, Prod.mk.injEq] at h2
      obtain ⟨h3, h4, rfl⟩ := h2
      have z1 : ((l0_0.length : Int) == 0) = false := by simpa using hl
      have HL := Aside0.mk hl
      have H3 := Aside0.mk h3
      have H4 := Aside0.mk h4
      clear hl h1 h3 h4
      go_upto_region 7 with (fail)
      obtain ⟨p, hp⟩ : ∃ p, w7.heap.size = p := ⟨_, rfl⟩
      obtain ⟨V1, hV1⟩ : ∃ W1, w7.alloc (.cells #[.int .i64 0] 3 (0, 0)) = W1 := ⟨_, rfl⟩
      obtain ⟨V2, hV2⟩ : ∃ W1, V1.alloc (.cells #[.int .i64 0] 3 (0, 0)) = W1 := ⟨_, rfl⟩
      have s1 : V1.heap.size = p + 1 := by rw [← hV1, ← hp]; simp
      have b1 : Below w7.heap.size w7 V1 := by rw [← hV1]; exact (Below.refl _ _).alloc (Nat.le_refl _) _
      have b2 : Below w7.heap.size w7 V2 := by rw [← hV2]; exact b1.alloc (by omega) _
      have p1 : V2.heap[p]? = some (.cells #[.int .i64 0] 3 (0, 0)) := by rw [← hV2]; refine blk_alloc ?_ _; rw [← hV1, ← hp]; exact blk_new _ _
      have p2 : V2.heap[p + 1]? = some (.cells #[.int .i64 0] 3 (0, 0)) := by rw [← hV2, ← s1]; exact blk_new _ _
      have q8 := pw_cell_below b2 q7
      have P1 := Aside0.mk p1
      have P2 := Aside0.mk p2
      have HB2 := Aside0.mk b2
      have PB : Aside0 (V2.heap[B]? = some (.cells #[.slice A0_0 l0_0.length c0_0] 26 (0, 0))) := ⟨blk_below (blk_below P0.out HB7.out) b2⟩
      have HP : Aside0 (B + 1 ≤ p) := ⟨by have := HB7.out.size; have := HS0.out; omega⟩
      have HR2 : Aside0 (Kd.C k47 V2 A0_0 l0_0.length l0_0) := ⟨Kd.C_below (Kd.C_below HR0.out HB7.out) b2⟩
      have HD1 : Aside0 (0 < l0_0.length → ∀ ad, A0_0 = some ad → ad.block ≠ p ∧ ad.block ≠ p + 1) := ⟨fun h0 ad e => by have := HA.out h0 ad e; have := HBq.out; have := HP.out; omega⟩
      have HBV : Aside0 (Below B w V2) := ⟨HBw.out.trans (b2.mono (by have := HP.out; omega))⟩
      rw [hV1, hV2, hp]
      clear hV1 hV2 hp s1 b1 b2 p1 p2 q7
      go_upto_region 8 with (first | (go_at_call 40; refine (each_weak A0_0 c0_0 l0_0 0 0 B p (p + 1) _ HR2.out (Int.le_refl _) (by have := HL.out; omega) PB.out P1.out P2.out (by omega) (by have := HP.out; omega) (by have := HP.out; omega) HD1.out).mono ?_; rintro e w8 ⟨rfl, g2, g3, gk⟩; rw [H3.out] at g2; rw [H4.out] at g3; have c2 : w8.cell? ⟨p, 0, none⟩ = some (.int .i64 r1) := (blk_cell g2 0).trans rfl; have c3 : w8.cell? ⟨p + 1, 0, none⟩ = some (.int .i64 r2) := (blk_cell g3 0).trans rfl; have GK := Aside0.mk gk; clear g2 g3 gk q8))
      go_quiet (fail)
      go_wp2
      go_ret3
      refine ⟨rfl, ?_⟩
      rw [HBq.out]
      exact (GK.out.trans (KeepS.drewN _ _)).below HBV.out (fun k hk => by have := HP.out; omega) (by have := blk_lt P1.out; have := HP.out; omega)
  · have z0 : (e1 != 0) = true := by simp [h1]
    have h2 := HH.out
    rw [if_neg h1] at h2
    simp only [Option.some.injEq, Prod.mk.injEq] at h2
    obtain ⟨rfl, rfl, rfl⟩ := h2
    clear h1
    go_wp2
    go_ret3
    exact ⟨rfl, by rw [HBq.out]; exact HBw.out⟩
end Go.Proofs.YtpldcikmlpegpaaGreatDoor.PB
end
section
namespace Go.Proofs.YtpldcikmlpegpaaGreatDoor.PB
open Go.RowKit Go.Proofs.YtpldcikmlpegpaaGreatDoorW.PrintWords Go.Proofs.YtpldcikmlpegpaaGreatDoorW.PrintLast Go.Proofs.YtpldcikmlpegpaaGreatDoorW.PrintMore
attribute [local go_sem] max2_int min2_int max_two min_two max_three min_three max_four min_four   -- for this text's walks alone
set_option linter.unusedVariables false
set_option linter.unusedSimpArgs false
def pack_Steepest.l0 : Nat → Int → List (S47) → Option (Int × Int)
  | 0, _, _ => none
  | k + 1, x5, x134000 => if x5 > 0 then ((pack_breaks.f x134000 x5).bind fun t135 => (if t135 = true then (pack_Steepest.l0 k (wrap64 (x5 - 1)) x134000) else (some (x5, 0)))) else (some (x5, 0))
def pack_Steepest.f (k : Nat) (l0_0 : List (S47)) : Option (Int × Int) := (pack_Check.f k l0_0).bind fun t134 => (if t134 = 0 then (pack_Steepest.l0 k 60 l0_0) else (some (0, t134)))
set_option maxHeartbeats 8000000 in
set_option maxRecDepth 100000 in
theorem pack_Steepest.calls (k : Nat) (A0_0 : Option Addr) (c0_0 : Nat) (l0_0 : List (S47)) (r1 : Int) (r2 : Int) (w : World) (hr0_0 : Kd.C k47 w A0_0 l0_0.length l0_0) (hc0_0 : l0_0.length ≤ c0_0) (h : pack_Steepest.f k l0_0 = some (r1, r2)) :
    Calls Tryz.prog 20 #[.agg #[.slice A0_0 l0_0.length c0_0]] w fun e w' => e = .returned (.tuple #[.int .i64 r1, .int .i64 r2]) ∧ Below w.heap.size w w' := by
  have hu26 := Tryz.underlying26
  have HR0_0 := Aside0.mk hr0_0
  have HC0_0 := Aside0.mk hc0_0
  clear hr0_0 hc0_0
  have HB := Aside0.mk (Below.refl w.heap.size w)
  have H : ((pack_Check.f k l0_0).bind fun t134 => (if t134 = 0 then (pack_Steepest.l0 k 60 l0_0) else (some (0, t134)))) = some (r1, r2) := h
  clear h
  replace H := Option.bind_eq_some_iff.mp H
  obtain ⟨t134, A20, H⟩ := H
  replace H : (if t134 = 0 then (pack_Steepest.l0 k 60 l0_0) else (some (0, t134))) = some (r1, r2) := H
  have A2 := Aside0.mk A20
  clear A20
  by_cases c3 : t134 = 0
  · rw [if_pos c3] at H
    have c3b0 : (t134 == 0) = true := beq_iff_eq.mpr c3
    have c3b1 : (t134 != 0) = false := bne_eq_false_iff_eq.mpr c3
    clear c3
    have H' := Aside0.mk H
    clear H
    go_enter Tryz.func20, Tryz.ntmps20
    go_wp2_with (first | ((with_reducible refine gate_dst (N := 1) rfl ?_); refine box_event ?hg (N := 1) ?hd (cs := #[.slice A0_0 l0_0.length c0_0]) (t := 26) ?hr ?_; (case hd => rfl); (case hg => rfl); (case hr => first | (go_simp; done) | (go_simp; rfl)); intro gb133 hg w4 hbox hb; have n0_ := Aside0.mk (below_step (by repeat (first | (with_reducible first | exact HB.out | apply below_alloc | apply pw_below_drewN | apply below_drew1) | exact HB.out)) hb); have n1_ := Aside0.mk (hbox); have n2_ := Aside0.mk ((by rw [hg]; exact (below_size (by repeat (first | (with_reducible first | exact HB.out | apply below_alloc | apply pw_below_drewN | apply below_drew1) | exact HB.out))) : w.heap.size ≤ gb133)); have n3_ := Aside0.mk ((by rw [hg]; exact (below_size (by repeat (first | (with_reducible first | exact HB.out | apply below_alloc | apply pw_below_drewN | apply below_drew1) | exact HB.out))) : w.heap.size ≤ gb133)); clear HB; have HB := n0_; have BK133 := n1_; have GW133 := n2_; have GE133 := n3_; clear n0_ n1_ n2_ n3_; clear hb hbox hg; have hcz5_0 : w4.cell? ⟨gb133, 0, none⟩ = some (.slice A0_0 l0_0.length c0_0) := (blk_cell BK133.out 0).trans rfl; have hfz5_0 := blk_frozen BK133.out 0) | ((with_reducible refine gate_callee (f := 32) rfl ?_); refine goesL_ (some 7) rfl rfl Tryz.func32 (by kernel_rfl) rfl #[.agg #[.slice A0_0 l0_0.length c0_0]] rfl (by (try simp only [List.map_toArray, List.map_cons, List.map_nil]); first | done | rfl | (simp only [List.length_drop, List.length_take]; rfl)) ?_; (with_reducible refine (pack_Check.calls k _ _ l0_0 t134 _ ?side1 ?side2 A2.out).mono ?_); (case side1 => repeat (first | exact (Kd.C_below HR0_0.out HB.out) | (with_reducible refine Kd.C_alloc ?_ _) | (with_reducible refine Kd.C_drewN ?_ _) | (with_reducible refine Kd.C_drew ?_))); (case side2 => exact HC0_0.out); rintro e w6 ⟨rfl, hb⟩; refine ⟨_, rfl, ?_⟩; have n0_ := Aside0.mk (blk_below (g := gb133) (o := .cells #[.slice A0_0 l0_0.length c0_0] 26 (0, 0)) (by (with_reducible repeat (first | refine blk_drewN ?_ _ | refine blk_drew ?_ | refine blk_alloc ?_ _)); exact BK133.out) hb); have n1_ := Aside0.mk (below_step (by repeat (first | (with_reducible first | exact HB.out | apply below_alloc | apply pw_below_drewN | apply below_drew1 | refine below_set ?_ GE133.out) | exact HB.out)) hb); clear BK133; clear HB; have BK133 := n0_; have HB := n1_; clear n0_ n1_; (try clear hb); (try clear hb2); (try clear hk); (try clear hi)))
    go_loopg [5] k (fun kq v5 w' => ∃ (x5_1 : Int), v5 = .int .i64 x5_1 ∧ Aside0 (pack_Steepest.l0 kq x5_1 l0_0 = some (r1, r2)) ∧ Aside0 (kq ≤ k) ∧ Aside0 (w'.heap[gb133]? = some (.cells #[(.slice A0_0 l0_0.length c0_0)] 26 (0, 0))) ∧ Aside0 (Below w.heap.size w w'))
    case atStart => exact ⟨(60), (by first | rfl | (simp; done) | (simp [*]; done)), H', ⟨Nat.le_refl _⟩, ⟨by (with_reducible repeat (first | refine blk_drewN ?_ _ | refine blk_drew ?_ | refine blk_alloc ?_ _)); exact BK133.out⟩, ⟨by repeat (first | (with_reducible first | exact HB.out | apply below_alloc | apply pw_below_drewN | apply below_drew1 | refine below_set ?_ GE133.out) | exact HB.out)⟩⟩
    case round =>
      clear H'
      try clear c2
      try clear p2
      try clear c3
      try clear c3b0
      try clear c3b1
      try clear hcz5_0
      try clear hfz5_0
      obtain ⟨x5_1, rfl, HA, HK1, BK133, HB⟩ := hrel
      cases gk with
      | zero => exact absurd HA.out (by simp [pack_Steepest.l0])
      | succ k1 =>
        have H := HA.out
        clear HA
        simp only [pack_Steepest.l0] at H
        by_cases c7 : x5_1 > 0
        · rw [if_pos c7] at H
          have c7b0 : decide (0 < x5_1) = true := decide_eq_true c7
          clear c7
          replace H := Option.bind_eq_some_iff.mp H
          obtain ⟨t135, A80, H⟩ := H
          replace H : (if t135 = true then (pack_Steepest.l0 k1 (wrap64 (x5_1 - 1)) l0_0) else (some (x5_1, 0))) = some (r1, r2) := H
          have A8 := Aside0.mk A80
          clear A80
          by_cases c9 : t135 = true
          · subst c9
            have H1 : (pack_Steepest.l0 k1 (wrap64 (x5_1 - 1)) l0_0) = some (r1, r2) := by rw [if_pos rfl] at H; exact H
            clear H
            have H := H1
            clear H1
            have H' := Aside0.mk H
            clear H
            have hcz10_0 : wr.cell? ⟨gb133, 0, none⟩ = some (.slice A0_0 l0_0.length c0_0) := (blk_cell BK133.out 0).trans rfl
            have hfz10_0 := blk_frozen BK133.out 0
            go_wp2_with (first | (go_at_call 43; (with_reducible refine (pack_breaks.calls _ _ l0_0 x5_1 true _ ?side1 ?side2 A8.out).mono ?_); (case side1 => repeat (first | exact (Kd.C_below HR0_0.out HB.out) | (with_reducible refine Kd.C_alloc ?_ _) | (with_reducible refine Kd.C_drewN ?_ _) | (with_reducible refine Kd.C_drew ?_))); (case side2 => exact HC0_0.out); rintro e w11 ⟨rfl, hb⟩; have n0_ := Aside0.mk (blk_below (g := gb133) (o := .cells #[.slice A0_0 l0_0.length c0_0] 26 (0, 0)) (by (with_reducible repeat (first | refine blk_drewN ?_ _ | refine blk_drew ?_ | refine blk_alloc ?_ _)); exact BK133.out) hb); have n1_ := Aside0.mk (below_step (by repeat (first | (with_reducible first | exact HB.out | apply below_alloc | apply pw_below_drewN | apply below_drew1 | refine below_set ?_ GE133.out) | exact HB.out)) hb); clear BK133; clear HB; have BK133 := n0_; have HB := n1_; clear n0_ n1_; (try clear hb); (try clear hb2); (try clear hk); (try clear hi)))
            go_roundg k1
            case measure => have := HK1.out; omega
            case rel => exact ⟨(wrap64 (x5_1 - 1)), (by first | rfl | (simp; done) | (simp [*]; done)), H', ⟨by have := HK1.out; omega⟩, ⟨by (with_reducible repeat (first | refine blk_drewN ?_ _ | refine blk_drew ?_ | refine blk_alloc ?_ _)); exact BK133.out⟩, ⟨by repeat (first | (with_reducible first | exact HB.out | apply below_alloc | apply pw_below_drewN | apply below_drew1 | refine below_set ?_ GE133.out) | exact HB.out)⟩⟩
          · replace c9 := Bool.eq_false_iff.mpr c9
            subst c9
            have H1 : (some (x5_1, 0)) = some (r1, r2) := by rw [if_neg (show ¬ (false = true) by decide)] at H; exact H
            clear H
            have H := H1
            clear H1
            simp only [Option.some.injEq, Prod.mk.injEq] at H
            obtain ⟨rfl, rfl⟩ := H
            have hcz12_0 : wr.cell? ⟨gb133, 0, none⟩ = some (.slice A0_0 l0_0.length c0_0) := (blk_cell BK133.out 0).trans rfl
            have hfz12_0 := blk_frozen BK133.out 0
            go_wp2_with (first | (go_at_call 43; (with_reducible refine (pack_breaks.calls _ _ l0_0 x5_1 false _ ?side1 ?side2 A8.out).mono ?_); (case side1 => repeat (first | exact (Kd.C_below HR0_0.out HB.out) | (with_reducible refine Kd.C_alloc ?_ _) | (with_reducible refine Kd.C_drewN ?_ _) | (with_reducible refine Kd.C_drew ?_))); (case side2 => exact HC0_0.out); rintro e w13 ⟨rfl, hb⟩; have n0_ := Aside0.mk (blk_below (g := gb133) (o := .cells #[.slice A0_0 l0_0.length c0_0] 26 (0, 0)) (by (with_reducible repeat (first | refine blk_drewN ?_ _ | refine blk_drew ?_ | refine blk_alloc ?_ _)); exact BK133.out) hb); have n1_ := Aside0.mk (below_step (by repeat (first | (with_reducible first | exact HB.out | apply below_alloc | apply pw_below_drewN | apply below_drew1 | refine below_set ?_ GE133.out) | exact HB.out)) hb); clear BK133; clear HB; have BK133 := n0_; have HB := n1_; clear n0_ n1_; (try clear hb); (try clear hb2); (try clear hk); (try clear hi)))
            go_ret2
            exact ⟨by first | rfl | (simp [errW_none, errW_some] <;> rfl) | (simp [*, errW_none, errW_some] <;> rfl), by repeat (first | (with_reducible first | exact HB.out | apply below_alloc | apply pw_below_drewN | apply below_drew1 | refine below_set ?_ GE133.out) | exact HB.out)⟩
        · rw [if_neg c7] at H
          have c7b0 : decide (0 < x5_1) = false := decide_eq_false c7
          clear c7
          simp only [Option.some.injEq, Prod.mk.injEq] at H
          obtain ⟨rfl, rfl⟩ := H
          go_wp2
          go_ret2
          exact ⟨by first | rfl | (simp [errW_none, errW_some] <;> rfl) | (simp [*, errW_none, errW_some] <;> rfl), by repeat (first | (with_reducible first | exact HB.out | apply below_alloc | apply pw_below_drewN | apply below_drew1 | refine below_set ?_ GE133.out) | exact HB.out)⟩
  · rw [if_neg c3] at H
    have c3b0 : (t134 == 0) = false := beq_eq_false_iff_ne.mpr c3
    have c3b1 : (t134 != 0) = true := bne_iff_ne.mpr c3
    simp only [Option.some.injEq, Prod.mk.injEq] at H
    obtain ⟨rfl, rfl⟩ := H
    go_enter Tryz.func20, Tryz.ntmps20
    go_wp2_with (first | ((with_reducible refine gate_dst (N := 1) rfl ?_); refine box_event ?hg (N := 1) ?hd (cs := #[.slice A0_0 l0_0.length c0_0]) (t := 26) ?hr ?_; (case hd => rfl); (case hg => rfl); (case hr => first | (go_simp; done) | (go_simp; rfl)); intro gb133 hg w14 hbox hb; have n0_ := Aside0.mk (below_step (by repeat (first | (with_reducible first | exact HB.out | apply below_alloc | apply pw_below_drewN | apply below_drew1) | exact HB.out)) hb); have n1_ := Aside0.mk (hbox); have n2_ := Aside0.mk ((by rw [hg]; exact (below_size (by repeat (first | (with_reducible first | exact HB.out | apply below_alloc | apply pw_below_drewN | apply below_drew1) | exact HB.out))) : w.heap.size ≤ gb133)); have n3_ := Aside0.mk ((by rw [hg]; exact (below_size (by repeat (first | (with_reducible first | exact HB.out | apply below_alloc | apply pw_below_drewN | apply below_drew1) | exact HB.out))) : w.heap.size ≤ gb133)); clear HB; have HB := n0_; have BK133 := n1_; have GW133 := n2_; have GE133 := n3_; clear n0_ n1_ n2_ n3_; clear hb hbox hg; have hcz15_0 : w14.cell? ⟨gb133, 0, none⟩ = some (.slice A0_0 l0_0.length c0_0) := (blk_cell BK133.out 0).trans rfl; have hfz15_0 := blk_frozen BK133.out 0) | ((with_reducible refine gate_callee (f := 32) rfl ?_); refine goesL_ (some 7) rfl rfl Tryz.func32 (by kernel_rfl) rfl #[.agg #[.slice A0_0 l0_0.length c0_0]] rfl (by (try simp only [List.map_toArray, List.map_cons, List.map_nil]); first | done | rfl | (simp only [List.length_drop, List.length_take]; rfl)) ?_; (with_reducible refine (pack_Check.calls k _ _ l0_0 t134 _ ?side1 ?side2 A2.out).mono ?_); (case side1 => repeat (first | exact (Kd.C_below HR0_0.out HB.out) | (with_reducible refine Kd.C_alloc ?_ _) | (with_reducible refine Kd.C_drewN ?_ _) | (with_reducible refine Kd.C_drew ?_))); (case side2 => exact HC0_0.out); rintro e w16 ⟨rfl, hb⟩; refine ⟨_, rfl, ?_⟩; have n0_ := Aside0.mk (blk_below (g := gb133) (o := .cells #[.slice A0_0 l0_0.length c0_0] 26 (0, 0)) (by (with_reducible repeat (first | refine blk_drewN ?_ _ | refine blk_drew ?_ | refine blk_alloc ?_ _)); exact BK133.out) hb); have n1_ := Aside0.mk (below_step (by repeat (first | (with_reducible first | exact HB.out | apply below_alloc | apply pw_below_drewN | apply below_drew1 | refine below_set ?_ GE133.out) | exact HB.out)) hb); clear BK133; clear HB; have BK133 := n0_; have HB := n1_; clear n0_ n1_; (try clear hb); (try clear hb2); (try clear hk); (try clear hi)))
    go_ret2
    exact ⟨by first | rfl | (simp [errW_none, errW_some] <;> rfl) | (simp [*, errW_none, errW_some] <;> rfl), by repeat (first | (with_reducible first | exact HB.out | apply below_alloc | apply pw_below_drewN | apply below_drew1 | refine below_set ?_ GE133.out) | exact HB.out)⟩
end Go.Proofs.YtpldcikmlpegpaaGreatDoor.PB
end
section
namespace Go.Proofs.YtpldcikmlpegpaaGreatDoor.PB
open Go.RowKit Go.Proofs.YtpldcikmlpegpaaGreatDoorW.PrintWords Go.Proofs.YtpldcikmlpegpaaGreatDoorW.PrintLast Go.Proofs.YtpldcikmlpegpaaGreatDoorW.PrintMore
attribute [local go_sem] max2_int min2_int max_two min_two max_three min_three max_four min_four   -- for this text's walks alone
set_option linter.unusedVariables false
set_option linter.unusedSimpArgs false
def snowlinelaw02_example.f  : Option ((List (S47))) := some (([(⟨40, 2, 0⟩ : S47), (⟨100, 0, 5⟩ : S47)] : List (S47)))
set_option maxHeartbeats 8000000 in
set_option maxRecDepth 100000 in
theorem snowlinelaw02_example.calls  (r : List (S47)) (w : World) (h : snowlinelaw02_example.f  = some r) :
    Calls Tryz.prog 15 #[] w fun e w' => ∃ v0_ : Value, e = .returned (.agg #[v0_]) ∧ Kd.R k47 47 w' w.heap.size (fun _ => True) v0_ r ∧ Below w.heap.size w w' := by
  have hu26 := Tryz.underlying26
  have hu47 := Tryz.underlying47
  have HB := Aside0.mk (Below.refl w.heap.size w)
  have H : (some (([(⟨40, 2, 0⟩ : S47), (⟨100, 0, 5⟩ : S47)] : List (S47)))) = some r := h
  clear h
  obtain ⟨y151, hy151⟩ : ∃ y_ : List (S47), y_ = (([(⟨40, 2, 0⟩ : S47), (⟨100, 0, 5⟩ : S47)] : List (S47))) := ⟨_, rfl⟩
  replace H : (some y151) = some r := by first | (rw [hy151]; with_reducible exact H) | (have H2_ := (Option.bind_some _ _).symm.trans H; rw [hy151]; with_reducible exact H2_) | (have H2_ := (Option.bind_some _ _).symm.trans H; with_reducible exact H2_) | with_reducible exact H | (rw [hy151]; exact H) | exact H
  have Ny151 := Aside0.mk hy151
  clear hy151
  obtain rfl := Option.some.inj H
  go_enter Tryz.func15, Tryz.ntmps15
  go_wp2_with (first | ((with_reducible refine gate_dst (N := 0) rfl ?_); refine box_event ?hg (N := 0) ?hd (cs := #[.slice none 0 0]) (t := 26) ?hr ?_; (case hd => rfl); (case hg => rfl); (case hr => first | (go_simp; done) | (go_simp; rfl)); intro gb150 hg w1 hbox hb; have n0_ := Aside0.mk (below_step (by repeat (first | (with_reducible first | exact HB.out | apply below_alloc | apply pw_below_drewN | apply below_drew1) | exact HB.out)) hb); have n1_ := Aside0.mk (hbox); have n2_ := Aside0.mk ((by rw [hg]; exact (below_size (by repeat (first | (with_reducible first | exact HB.out | apply below_alloc | apply pw_below_drewN | apply below_drew1) | exact HB.out))) : w.heap.size ≤ gb150)); have n3_ := Aside0.mk ((by rw [hg]; exact (below_size (by repeat (first | (with_reducible first | exact HB.out | apply below_alloc | apply pw_below_drewN | apply below_drew1) | exact HB.out))) : w.heap.size ≤ gb150)); clear HB; have HB := n0_; have BK150 := n1_; have GW150 := n2_; have GE150 := n3_; clear n0_ n1_ n2_ n3_; clear hb hbox hg) | ((with_reducible refine gate_dst (N := 3) rfl ?_); refine Kd.R_lit k47 _ 47 ?hg (N := 3) ?hd (xs := ([(⟨40, 2, 0⟩ : S47), (⟨100, 0, 5⟩ : S47)] : List (S47))) (inner := [.int .i64 40, .int .i64 2, .int .i64 0, .int .i64 100, .int .i64 0, .int .i64 5]) (ok := fun _ => True) (okp := fun _ => True) ?hr ?hp (fun _ hk => hk) trivial (Below.refl _ _) (Nat.le_refl _) (by simp) ?_; (case hd => rfl); (case hg => rfl); (case hr => first | (go_simp; done) | (go_simp; rfl)); (case hp => exact (Reps.c3 (show Kd.M k47 _ _ _ (⟨40, 2, 0⟩ : S47) [.int .i64 40, .int .i64 2, .int .i64 0] from (k47_mkM _ _ _ (⟨40, 2, 0⟩ : S47) )) (Reps.c3 (show Kd.M k47 _ _ _ (⟨100, 0, 5⟩ : S47) [.int .i64 100, .int .i64 0, .int .i64 5] from (k47_mkM _ _ _ (⟨100, 0, 5⟩ : S47) )) (Reps.none _ _)))); intro v152 w2 ho3 hb hg_ hnew_; clear hg_ hnew_; (first | rw [← Ny151.out] at ho3 | (simp only [Int.reduceToNat] at ho3; rw [← Ny151.out] at ho3)); have n0_ := Aside0.mk (Kd.R_lower ho3 (below_size (by repeat (first | (with_reducible first | exact HB.out | apply below_alloc | apply pw_below_drewN | apply below_drew1 | refine below_set ?_ GE150.out) | exact HB.out)))); have n1_ := Aside0.mk (blk_below (g := gb150) (o := .cells #[.slice none 0 0] 26 (0, 0)) (by (with_reducible repeat (first | refine blk_drewN ?_ _ | refine blk_drew ?_ | refine blk_alloc ?_ _)); exact BK150.out) hb); have n2_ := Aside0.mk (below_step (by repeat (first | (with_reducible first | exact HB.out | apply below_alloc | apply pw_below_drewN | apply below_drew1 | refine below_set ?_ GE150.out) | exact HB.out)) hb); clear BK150; clear HB; have HO153 := n0_; have BK150 := n1_; have HB := n2_; clear n0_ n1_ n2_; clear hb ho3; obtain ⟨Ao4, co4, eo4⟩ := Kd.R_slice HO153.out; subst eo4; have hcz5_0 : w2.cell? ⟨gb150, 0, none⟩ = some (.slice none 0 0) := (blk_cell BK150.out 0).trans rfl; have hfz5_0 := blk_frozen BK150.out 0))
  refine bodyPost_ret (results_cell_row rfl _ _ gb150 26 #[.slice Ao4 y151.length co4] (0, 0) _ rfl (by (with_reducible repeat (first | refine blk_drewN ?_ _ | refine blk_drew ?_ | refine blk_alloc ?_ _)); refine blk_put (cs := #[.slice none 0 0]) ?_ 0 _ rfl; (with_reducible repeat (first | refine blk_drewN ?_ _ | refine blk_drew ?_ | refine blk_alloc ?_ _)); exact BK150.out) Tryz.underlying26 rfl (by kernel_rfl)) rfl ?_
  exact ⟨_, by first | rfl | (simp [errW_none, errW_some] <;> rfl) | (simp [*, errW_none, errW_some] <;> rfl), by (with_reducible repeat (first | apply Kd.R_alloc | apply Kd.R_drewN | apply Kd.R_drew)); exact Kd.R_mono (Kd.R_far (p := ⟨gb150, 0, none⟩) (Kd.R_types HO153.out BK150.out (by decide)) (fun _ hk => hk.2) (.slice Ao4 y151.length co4)) (fun _ hk => trivial), by repeat (first | (with_reducible first | exact HB.out | apply below_alloc | apply pw_below_drewN | apply below_drew1 | refine below_set ?_ GE150.out) | exact HB.out)⟩
def snowlinelaw02_few.l0 : Nat → List (S26) → Int → Option (Bool)
  | 0, _, _ => none
  | k + 1, x0, x3 => if x3 < (x0.length : Int) then (if 0 ≤ x3 then (if (((rd_T26 x0 x3).f0).length : Int) > 70 then (some false) else (snowlinelaw02_few.l0 k x0 (wrap64 (x3 + 1)))) else (none)) else (some true)
def snowlinelaw02_few.f (k : Nat) (l0 : List (S26)) : Option (Bool) := snowlinelaw02_few.l0 k l0 0
set_option maxHeartbeats 8000000 in
set_option maxRecDepth 100000 in
theorem snowlinelaw02_few.calls (k : Nat) (A0 : Option Addr) (c0 : Nat) (l0 : List (S26)) (r : Bool) (w : World) (hr0 : Kd.C k26 w A0 l0.length l0) (hc0 : l0.length ≤ c0) (h : snowlinelaw02_few.f k l0 = some r) :
    Calls Tryz.prog 5 #[.slice A0 l0.length c0] w fun e w' => e = .returned (.bool r) ∧ Drawn0 w w' := by
  have HR0 := Aside0.mk hr0
  have HC0 := Aside0.mk hc0
  clear hr0 hc0
  have H : (snowlinelaw02_few.l0 k l0 0) = some r := h
  clear h
  have H' := Aside0.mk H
  clear H
  go_enter Tryz.func5, Tryz.ntmps5
  go_wp2
  go_loopg [3] k (fun kq v3 w' => ∃ (x3_1 : Int), v3 = .int .i64 x3_1 ∧ Aside0 (snowlinelaw02_few.l0 kq l0 x3_1 = some r) ∧ Aside0 (kq ≤ k) ∧ Drawn0 w w')
  case atStart => exact ⟨(0), (by first | rfl | (simp; done) | (simp [*]; done)), H', ⟨Nat.le_refl _⟩, by repeat (first | exact Drawn0.refl _ | apply Drawn0.step)⟩
  case round =>
    clear H'
    obtain ⟨x3_1, rfl, HA, HK1, ⟨m1, rfl⟩⟩ := hrel
    cases gk with
    | zero => exact absurd HA.out (by simp [snowlinelaw02_few.l0])
    | succ k1 =>
      have H := HA.out
      clear HA
      simp only [snowlinelaw02_few.l0] at H
      by_cases c2 : x3_1 < (l0.length : Int)
      · rw [if_pos c2] at H
        have c2b0 : decide (x3_1 < (l0.length : Int)) = true := decide_eq_true c2
        clear c2
        by_cases c3 : 0 ≤ x3_1
        · rw [if_pos c3] at H
          have c3b0 : decide (0 ≤ x3_1) = true := decide_eq_true c3
          clear c3
          by_cases c4 : (((rd_T26 l0 x3_1).f0).length : Int) > 70
          · rw [if_pos c4] at H
            have c4b0 : decide (70 < (((rd_T26 l0 x3_1).f0).length : Int)) = true := decide_eq_true c4
            have c4b1 : decide (70 < ((rd_T26 l0 x3_1).f0).length) = true := decide_eq_true (by omega)
            clear c4
            obtain rfl := Option.some.inj H
            have p154 : 0 ≤ (x3_1 : Int) := of_decide_eq_true (by first | (with_reducible assumption) | assumption)
            have q154 : x3_1 < (l0.length : Int) := of_decide_eq_true (by first | (with_reducible assumption) | assumption)
            obtain ⟨ad154, A154_0, c154_0, e154, hx154_0, hl154_0, hi154_0⟩ := at_T26 HR0.out x3_1 p154 q154
            cases e154
            have HR154_0 := Aside0.mk hi154_0
            have HC154_0 := Aside0.mk hl154_0
            clear hi154_0 hl154_0
            replace p154 := eq_true p154
            replace q154 := eq_true q154
            go_wp2
            go_ret
            exact ⟨by first | rfl | (simp; done) | (simp [*]; done), by repeat (first | exact Drawn0.refl _ | apply Drawn0.step)⟩
          · rw [if_neg c4] at H
            have c4b0 : decide (70 < (((rd_T26 l0 x3_1).f0).length : Int)) = false := decide_eq_false c4
            have c4b1 : decide (70 < ((rd_T26 l0 x3_1).f0).length) = false := decide_eq_false (by omega)
            clear c4
            have H' := Aside0.mk H
            clear H
            have p154 : 0 ≤ (x3_1 : Int) := of_decide_eq_true (by first | (with_reducible assumption) | assumption)
            have q154 : x3_1 < (l0.length : Int) := of_decide_eq_true (by first | (with_reducible assumption) | assumption)
            obtain ⟨ad154, A154_0, c154_0, e154, hx154_0, hl154_0, hi154_0⟩ := at_T26 HR0.out x3_1 p154 q154
            cases e154
            have HR154_0 := Aside0.mk hi154_0
            have HC154_0 := Aside0.mk hl154_0
            clear hi154_0 hl154_0
            replace p154 := eq_true p154
            replace q154 := eq_true q154
            go_wp2
            go_roundg k1
            case measure => have := HK1.out; omega
            case rel => exact ⟨(wrap64 (x3_1 + 1)), (by first | rfl | (simp; done) | (simp [*]; done)), H', ⟨by have := HK1.out; omega⟩, by repeat (first | exact Drawn0.refl _ | apply Drawn0.step)⟩
        · rw [if_neg c3] at H
          exact absurd H (by simp)
      · rw [if_neg c2] at H
        have c2b0 : decide (x3_1 < (l0.length : Int)) = false := decide_eq_false c2
        clear c2
        obtain rfl := Option.some.inj H
        go_wp2
        go_ret
        exact ⟨by first | rfl | (simp; done) | (simp [*]; done), by repeat (first | exact Drawn0.refl _ | apply Drawn0.step)⟩
end Go.Proofs.YtpldcikmlpegpaaGreatDoor.PB
end
section
namespace Go.Proofs.YtpldcikmlpegpaaGreatDoor.PB
open Go.RowKit Go.Proofs.YtpldcikmlpegpaaGreatDoorW.PrintWords Go.Proofs.YtpldcikmlpegpaaGreatDoorW.PrintLast Go.Proofs.YtpldcikmlpegpaaGreatDoorW.PrintMore
attribute [local go_sem] max2_int min2_int max_two min_two max_three min_three max_four min_four   -- for this text's walks alone
set_option linter.unusedVariables false
set_option linter.unusedSimpArgs false
def pack_Print.l0 : Nat → List ByteArray → List (S47) → Int → Int → Option (ByteArray × Int)
  | 0, _, _, _, _ => none
  | k + 1, x5, x15, x16, x17 => if x17 < x16 then (if 0 ≤ x17 then (if x17 < (x15.length : Int) then ((strconv_Itoa.f ((rd_T47 x15 x17).f0)).bind fun t143 => (if t143.size + 1 ≤ 9223372036854775807 then ((strconv_Itoa.f ((rd_T47 x15 x17).f1)).bind fun t144 => (if (t143 ++ (⟨#[47]⟩ : ByteArray)).size + t144.size ≤ 9223372036854775807 then (if ((t143 ++ (⟨#[47]⟩ : ByteArray)) ++ t144).size + 1 ≤ 9223372036854775807 then ((strconv_Itoa.f ((rd_T47 x15 x17).f2)).bind fun t145 => (if (((t143 ++ (⟨#[47]⟩ : ByteArray)) ++ t144) ++ (⟨#[47]⟩ : ByteArray)).size + t145.size ≤ 9223372036854775807 then (if x5.length < 8796093022208 then (pack_Print.l0 k (x5 ++ [(((t143 ++ (⟨#[47]⟩ : ByteArray)) ++ t144) ++ (⟨#[47]⟩ : ByteArray)) ++ t145]) x15 x16 (wrap64 (x17 + 1))) else (none)) else (none))) else (none)) else (none))) else (none))) else (none)) else (none)) else ((strings_Join.f x5 (⟨#[32]⟩ : ByteArray)).bind fun t149 => (some (t149, 0)))
def pack_Print.f (k : Nat) (l0_0 : List (S47)) : Option (ByteArray × Int) := (pack_Check.f k l0_0).bind fun t137 => (if t137 = 0 then (pack_Print.l0 k (([(⟨#[112, 97, 99, 107]⟩ : ByteArray)] : List ByteArray)) l0_0 (l0_0.length : Int) 0) else (some ((⟨#[]⟩ : ByteArray), t137)))
def pack_Print.T8 : Bool × List (List Nat × List Nat) := (true, [([], []), ([], []), ([1], [1]), ([2], [2]), ([3], [3]), ([], []), ([5], [5]), ([6, 3], [6]), ([4, 7], [4, 7]), ([8], [8]), ([], []), ([10], [10]), ([11, 7], [11]), ([9, 12], [9, 12]), ([13], [13]), ([0, 14, 12], [0, 14]), ([15, 15, 0, 1, 2, 3, 4, 5, 6, 7, 8, 9, 10, 11, 12, 13, 14, 15], [0, 15])])
def pack_Print.B8 : List Nat := [0, 0, 2, 6, 14, 0, 32, 110, 254, 510, 0, 1024, 3310, 8190, 16382, 32767, 65535]
theorem pack_Print.tab8 : rtab .any (opsOf Tryz.f10 8) = pack_Print.T8 := by kernel_rfl
theorem pack_Print.bits8 : waitsOk pack_Print.T8.2 pack_Print.B8 = true := by kernel_rfl
set_option maxHeartbeats 8000000 in
set_option maxRecDepth 100000 in
theorem pack_Print.calls (k : Nat) (A0_0 : Option Addr) (c0_0 : Nat) (l0_0 : List (S47)) (r1 : ByteArray) (r2 : Int) (w : World) (hr0_0 : Kd.C k47 w A0_0 l0_0.length l0_0) (hc0_0 : l0_0.length ≤ c0_0) (hG : Glob w) (h : pack_Print.f k l0_0 = some (r1, r2)) :
    Calls Tryz.prog 10 #[.agg #[.slice A0_0 l0_0.length c0_0]] w fun e w' => e = .returned (.tuple #[.string r1, .int .i64 r2]) ∧ Below w.heap.size w w' := by
  have hu26 := Tryz.underlying26
  have hu47 := Tryz.underlying47
  have HR0_0 := Aside0.mk hr0_0
  have HC0_0 := Aside0.mk hc0_0
  clear hr0_0 hc0_0
  have HB := Aside0.mk (Below.refl w.heap.size w)
  have HGl := Aside0.mk hG
  clear hG
  have H : ((pack_Check.f k l0_0).bind fun t137 => (if t137 = 0 then (pack_Print.l0 k (([(⟨#[112, 97, 99, 107]⟩ : ByteArray)] : List ByteArray)) l0_0 (l0_0.length : Int) 0) else (some ((⟨#[]⟩ : ByteArray), t137)))) = some (r1, r2) := h
  clear h
  replace H := Option.bind_eq_some_iff.mp H
  obtain ⟨t137, A20, H⟩ := H
  replace H : (if t137 = 0 then (pack_Print.l0 k (([(⟨#[112, 97, 99, 107]⟩ : ByteArray)] : List ByteArray)) l0_0 (l0_0.length : Int) 0) else (some ((⟨#[]⟩ : ByteArray), t137))) = some (r1, r2) := H
  have A2 := Aside0.mk A20
  clear A20
  by_cases c3 : t137 = 0
  · rw [if_pos c3] at H
    have c3b0 : (t137 == 0) = true := beq_iff_eq.mpr c3
    have c3b1 : (t137 != 0) = false := bne_eq_false_iff_eq.mpr c3
    clear c3
    obtain ⟨y138, hy138⟩ : ∃ y_ : List ByteArray, y_ = (([(⟨#[112, 97, 99, 107]⟩ : ByteArray)] : List ByteArray)) := ⟨_, rfl⟩
    replace H : (pack_Print.l0 k y138 l0_0 (l0_0.length : Int) 0) = some (r1, r2) := by first | (rw [hy138]; with_reducible exact H) | (have H2_ := (Option.bind_some _ _).symm.trans H; rw [hy138]; with_reducible exact H2_) | (have H2_ := (Option.bind_some _ _).symm.trans H; with_reducible exact H2_) | with_reducible exact H | (rw [hy138]; exact H) | exact H
    have Ny138 := Aside0.mk hy138
    clear hy138
    have H' := Aside0.mk H
    clear H
    go_enter Tryz.func10, Tryz.ntmps10
    go_wp2_with (first | ((with_reducible refine gate_dst (N := 1) rfl ?_); refine box_event ?hg (N := 1) ?hd (cs := #[.slice A0_0 l0_0.length c0_0]) (t := 26) ?hr ?_; (case hd => rfl); (case hg => rfl); (case hr => first | (go_simp; done) | (go_simp; rfl)); intro gb136 hg w4 hbox hb; have n0_ := Aside0.mk (below_step (by repeat (first | (with_reducible first | exact HB.out | apply below_alloc | apply pw_below_drewN | apply below_drew1) | exact HB.out)) hb); have n1_ := Aside0.mk (hbox); have n2_ := Aside0.mk ((by rw [hg]; exact (below_size (by repeat (first | (with_reducible first | exact HB.out | apply below_alloc | apply pw_below_drewN | apply below_drew1) | exact HB.out))) : w.heap.size ≤ gb136)); have n3_ := Aside0.mk ((by rw [hg]; exact (below_size (by repeat (first | (with_reducible first | exact HB.out | apply below_alloc | apply pw_below_drewN | apply below_drew1) | exact HB.out))) : w.heap.size ≤ gb136)); clear HB; have HB := n0_; have BK136 := n1_; have GW136 := n2_; have GE136 := n3_; clear n0_ n1_ n2_ n3_; clear hb hbox hg; have hcz5_0 : w4.cell? ⟨gb136, 0, none⟩ = some (.slice A0_0 l0_0.length c0_0) := (blk_cell BK136.out 0).trans rfl; have hfz5_0 := blk_frozen BK136.out 0) | ((with_reducible refine gate_callee (f := 32) rfl ?_); refine goesL_ (some 9) rfl rfl Tryz.func32 (by kernel_rfl) rfl #[.agg #[.slice A0_0 l0_0.length c0_0]] rfl (by (try simp only [List.map_toArray, List.map_cons, List.map_nil]); first | done | rfl | (simp only [List.length_drop, List.length_take]; rfl)) ?_; (with_reducible refine (pack_Check.calls k _ _ l0_0 t137 _ ?side1 ?side2 A2.out).mono ?_); (case side1 => repeat (first | exact (Kd.C_below HR0_0.out HB.out) | (with_reducible refine Kd.C_alloc ?_ _) | (with_reducible refine Kd.C_drewN ?_ _) | (with_reducible refine Kd.C_drew ?_))); (case side2 => exact HC0_0.out); rintro e w6 ⟨rfl, hb⟩; refine ⟨_, rfl, ?_⟩; have n0_ := Aside0.mk (blk_below (g := gb136) (o := .cells #[.slice A0_0 l0_0.length c0_0] 26 (0, 0)) (by (with_reducible repeat (first | refine blk_drewN ?_ _ | refine blk_drew ?_ | refine blk_alloc ?_ _)); exact BK136.out) hb); have n1_ := Aside0.mk (below_step (by repeat (first | (with_reducible first | exact HB.out | apply below_alloc | apply pw_below_drewN | apply below_drew1 | refine below_set ?_ GE136.out) | exact HB.out)) hb); clear BK136; clear HB; have BK136 := n0_; have HB := n1_; clear n0_ n1_; (try clear hb); (try clear hb2); (try clear hk); (try clear hi)) | ((with_reducible refine gate_dst (N := 13) rfl ?_); refine Kd.R_lit Kd.string _ 9 ?hg (N := 13) ?hd (xs := ([(⟨#[112, 97, 99, 107]⟩ : ByteArray)] : List ByteArray)) (inner := [.string (⟨#[112, 97, 99, 107]⟩ : ByteArray)]) (ok := fun _ => True) (okp := fun _ => True) ?hr ?hp (fun _ hk => hk) trivial (Below.refl _ _) (Nat.le_refl _) (by simp) ?_; (case hd => rfl); (case hg => rfl); (case hr => first | (go_simp; done) | (go_simp; rfl)); (case hp => exact (Reps.one (show Kd.M Kd.string _ _ _ (⟨#[112, 97, 99, 107]⟩ : ByteArray) [.string (⟨#[112, 97, 99, 107]⟩ : ByteArray)] from rfl) (Reps.none _ _))); intro v139 w7 ho8 hb hg_ hnew_; clear hg_ hnew_; (first | rw [← Ny138.out] at ho8 | (simp only [Int.reduceToNat] at ho8; rw [← Ny138.out] at ho8)); have n0_ := Aside0.mk (Kd.R_lower ho8 (below_size (by repeat (first | (with_reducible first | exact HB.out | apply below_alloc | apply pw_below_drewN | apply below_drew1 | refine below_set ?_ GE136.out) | exact HB.out)))); have n1_ := Aside0.mk (blk_below (g := gb136) (o := .cells #[.slice A0_0 l0_0.length c0_0] 26 (0, 0)) (by (with_reducible repeat (first | refine blk_drewN ?_ _ | refine blk_drew ?_ | refine blk_alloc ?_ _)); exact BK136.out) hb); have n2_ := Aside0.mk (below_step (by repeat (first | (with_reducible first | exact HB.out | apply below_alloc | apply pw_below_drewN | apply below_drew1 | refine below_set ?_ GE136.out) | exact HB.out)) hb); clear BK136; clear HB; have HO140 := n0_; have BK136 := n1_; have HB := n2_; clear n0_ n1_ n2_; clear hb ho8; have hcz9_0 : w7.cell? ⟨gb136, 0, none⟩ = some (.slice A0_0 l0_0.length c0_0) := (blk_cell BK136.out 0).trans rfl; have hfz9_0 := blk_frozen BK136.out 0))
    go_loopg [5, 17] k (fun kq v5 v17 w' => ∃ (x5_1 : List ByteArray) (x17_1 : Int), v17 = .int .i64 x17_1 ∧ Aside0 (pack_Print.l0 kq x5_1 l0_0 (l0_0.length : Int) x17_1 = some (r1, r2)) ∧ Aside0 (kq ≤ k) ∧ Aside0 (Kd.R Kd.string 9 w' w.heap.size (fun _ => True) v5 x5_1) ∧ Aside0 (w'.heap[gb136]? = some (.cells #[(.slice A0_0 l0_0.length c0_0)] 26 (0, 0))) ∧ Aside0 (Below w.heap.size w w'))
    case atStart => exact ⟨(y138), (0), (by first | rfl | (simp; done) | (simp [*]; done)), H', ⟨Nat.le_refl _⟩, ⟨by (with_reducible repeat (first | apply Kd.R_alloc | apply Kd.R_drewN | apply Kd.R_drew)); exact HO140.out⟩, ⟨by (with_reducible repeat (first | refine blk_drewN ?_ _ | refine blk_drew ?_ | refine blk_alloc ?_ _)); exact BK136.out⟩, ⟨by repeat (first | (with_reducible first | exact HB.out | apply below_alloc | apply pw_below_drewN | apply below_drew1 | refine below_set ?_ GE136.out) | exact HB.out)⟩⟩
    case round =>
      clear H'
      try clear c1
      try clear p2
      try clear c3
      try clear c3b0
      try clear c3b1
      try clear hcz5_0
      try clear hcz9_0
      try clear hfz5_0
      try clear hfz9_0
      obtain ⟨x5_1, x17_1, rfl, HA, HK1, HO_5, BK136, HB⟩ := hrel
      cases gk with
      | zero => exact absurd HA.out (by simp [pack_Print.l0])
      | succ k1 =>
        have H := HA.out
        clear HA
        simp only [pack_Print.l0] at H
        by_cases c10 : x17_1 < (l0_0.length : Int)
        · rw [if_pos c10] at H
          have c10b0 : decide (x17_1 < (l0_0.length : Int)) = true := decide_eq_true c10
          clear c10
          by_cases c11 : 0 ≤ x17_1
          · rw [if_pos c11] at H
            have c11b0 : decide (0 ≤ x17_1) = true := decide_eq_true c11
            clear c11
            by_cases c12 : x17_1 < (l0_0.length : Int)
            · rw [if_pos c12] at H
              have c12b0 : decide (x17_1 < (l0_0.length : Int)) = true := decide_eq_true c12
              clear c12
              replace H := Option.bind_eq_some_iff.mp H
              obtain ⟨t143, A130, H⟩ := H
              replace H : (if t143.size + 1 ≤ 9223372036854775807 then ((strconv_Itoa.f ((rd_T47 l0_0 x17_1).f1)).bind fun t144 => (if (t143 ++ (⟨#[47]⟩ : ByteArray)).size + t144.size ≤ 9223372036854775807 then (if ((t143 ++ (⟨#[47]⟩ : ByteArray)) ++ t144).size + 1 ≤ 9223372036854775807 then ((strconv_Itoa.f ((rd_T47 l0_0 x17_1).f2)).bind fun t145 => (if (((t143 ++ (⟨#[47]⟩ : ByteArray)) ++ t144) ++ (⟨#[47]⟩ : ByteArray)).size + t145.size ≤ 9223372036854775807 then (if x5_1.length < 8796093022208 then (pack_Print.l0 k1 (x5_1 ++ [(((t143 ++ (⟨#[47]⟩ : ByteArray)) ++ t144) ++ (⟨#[47]⟩ : ByteArray)) ++ t145]) l0_0 (l0_0.length : Int) (wrap64 (x17_1 + 1))) else (none)) else (none))) else (none)) else (none))) else (none)) = some (r1, r2) := H
              have A13 := Aside0.mk A130
              clear A130
              by_cases c14 : t143.size + 1 ≤ 9223372036854775807
              · rw [if_pos c14] at H
                have c14b0 := eq_true c14
                have c14b1 : decide (t143.size + 1 ≤ 9223372036854775807) = true := decide_eq_true c14
                try have c14b2 : (9223372036854775807 < t143.size + 1) = False := eq_false (Nat.not_lt.2 c14)
                replace H := Option.bind_eq_some_iff.mp H
                obtain ⟨t144, A150, H⟩ := H
                replace H : (if (t143 ++ (⟨#[47]⟩ : ByteArray)).size + t144.size ≤ 9223372036854775807 then (if ((t143 ++ (⟨#[47]⟩ : ByteArray)) ++ t144).size + 1 ≤ 9223372036854775807 then ((strconv_Itoa.f ((rd_T47 l0_0 x17_1).f2)).bind fun t145 => (if (((t143 ++ (⟨#[47]⟩ : ByteArray)) ++ t144) ++ (⟨#[47]⟩ : ByteArray)).size + t145.size ≤ 9223372036854775807 then (if x5_1.length < 8796093022208 then (pack_Print.l0 k1 (x5_1 ++ [(((t143 ++ (⟨#[47]⟩ : ByteArray)) ++ t144) ++ (⟨#[47]⟩ : ByteArray)) ++ t145]) l0_0 (l0_0.length : Int) (wrap64 (x17_1 + 1))) else (none)) else (none))) else (none)) else (none)) = some (r1, r2) := H
                have A15 := Aside0.mk A150
                clear A150
                by_cases c16 : (t143 ++ (⟨#[47]⟩ : ByteArray)).size + t144.size ≤ 9223372036854775807
                · rw [if_pos c16] at H
                  have c16b0 := eq_true c16
                  have c16b1 : decide ((t143 ++ (⟨#[47]⟩ : ByteArray)).size + t144.size ≤ 9223372036854775807) = true := decide_eq_true c16
                  try have c16b2 : (9223372036854775807 < (t143 ++ (⟨#[47]⟩ : ByteArray)).size + t144.size) = False := eq_false (Nat.not_lt.2 c16)
                  have c16n := c16b2
                  simp only [ByteArray.size_append, show (⟨#[47]⟩ : ByteArray).size = 1 from rfl, show (⟨#[32]⟩ : ByteArray).size = 1 from rfl] at c16n
                  by_cases c17 : ((t143 ++ (⟨#[47]⟩ : ByteArray)) ++ t144).size + 1 ≤ 9223372036854775807
                  · rw [if_pos c17] at H
                    have c17b0 := eq_true c17
                    have c17b1 : decide (((t143 ++ (⟨#[47]⟩ : ByteArray)) ++ t144).size + 1 ≤ 9223372036854775807) = true := decide_eq_true c17
                    try have c17b2 : (9223372036854775807 < ((t143 ++ (⟨#[47]⟩ : ByteArray)) ++ t144).size + 1) = False := eq_false (Nat.not_lt.2 c17)
                    have c17n := c17b2
                    simp only [ByteArray.size_append, show (⟨#[47]⟩ : ByteArray).size = 1 from rfl, show (⟨#[32]⟩ : ByteArray).size = 1 from rfl] at c17n
                    replace H := Option.bind_eq_some_iff.mp H
                    obtain ⟨t145, A180, H⟩ := H
                    replace H : (if (((t143 ++ (⟨#[47]⟩ : ByteArray)) ++ t144) ++ (⟨#[47]⟩ : ByteArray)).size + t145.size ≤ 9223372036854775807 then (if x5_1.length < 8796093022208 then (pack_Print.l0 k1 (x5_1 ++ [(((t143 ++ (⟨#[47]⟩ : ByteArray)) ++ t144) ++ (⟨#[47]⟩ : ByteArray)) ++ t145]) l0_0 (l0_0.length : Int) (wrap64 (x17_1 + 1))) else (none)) else (none)) = some (r1, r2) := H
                    have A18 := Aside0.mk A180
                    clear A180
                    by_cases c19 : (((t143 ++ (⟨#[47]⟩ : ByteArray)) ++ t144) ++ (⟨#[47]⟩ : ByteArray)).size + t145.size ≤ 9223372036854775807
                    · rw [if_pos c19] at H
                      have c19b0 := eq_true c19
                      have c19b1 : decide ((((t143 ++ (⟨#[47]⟩ : ByteArray)) ++ t144) ++ (⟨#[47]⟩ : ByteArray)).size + t145.size ≤ 9223372036854775807) = true := decide_eq_true c19
                      try have c19b2 : (9223372036854775807 < (((t143 ++ (⟨#[47]⟩ : ByteArray)) ++ t144) ++ (⟨#[47]⟩ : ByteArray)).size + t145.size) = False := eq_false (Nat.not_lt.2 c19)
                      have c19n := c19b2
                      simp only [ByteArray.size_append, show (⟨#[47]⟩ : ByteArray).size = 1 from rfl, show (⟨#[32]⟩ : ByteArray).size = 1 from rfl] at c19n
                      by_cases c20 : x5_1.length < 8796093022208
                      · rw [if_pos c20] at H
                        have LMc20 := Aside0.mk c20
                        clear c20
                        obtain ⟨y146, hy146⟩ : ∃ y_ : List ByteArray, y_ = (x5_1 ++ [(((t143 ++ (⟨#[47]⟩ : ByteArray)) ++ t144) ++ (⟨#[47]⟩ : ByteArray)) ++ t145]) := ⟨_, rfl⟩
                        replace H : (pack_Print.l0 k1 y146 l0_0 (l0_0.length : Int) (wrap64 (x17_1 + 1))) = some (r1, r2) := by first | (rw [hy146]; with_reducible exact H) | (have H2_ := (Option.bind_some _ _).symm.trans H; rw [hy146]; with_reducible exact H2_) | (have H2_ := (Option.bind_some _ _).symm.trans H; with_reducible exact H2_) | with_reducible exact H | (rw [hy146]; exact H) | exact H
                        have Ny146 := Aside0.mk hy146
                        clear hy146
                        have H' := Aside0.mk H
                        clear H
                        have p141 : 0 ≤ (x17_1 : Int) := of_decide_eq_true (by first | (with_reducible assumption) | assumption)
                        have q141 : x17_1 < (l0_0.length : Int) := of_decide_eq_true (by first | (with_reducible assumption) | assumption)
                        obtain ⟨ad141, e141, hx141_0, hx141_1, hx141_2⟩ := at_T47 HR0_0.out x17_1 p141 q141
                        cases e141
                        replace hx141_0 := (HB.out.cell (World.block_lt_of_cell? w _ hx141_0)).trans hx141_0
                        replace hx141_1 := (HB.out.cell (World.block_lt_of_cell? w _ hx141_1)).trans hx141_1
                        replace hx141_2 := (HB.out.cell (World.block_lt_of_cell? w _ hx141_2)).trans hx141_2
                        replace p141 := eq_true p141
                        replace q141 := eq_true q141
                        try go_wp2_with (first | ((with_reducible refine gate_dst (N := 7) rfl ?_); refine box_event ?hg (N := 7) ?hd (cs := #[.int .i64 0, .int .i64 0, .int .i64 0]) (t := 47) ?hr ?_; (case hd => rfl); (case hg => rfl); (case hr => first | (go_simp; done) | (go_simp; rfl)); intro gb142 hg w21 hbox hb; have n0_ := Aside0.mk (Kd.R_below (by (with_reducible repeat (first | apply Kd.R_alloc | apply Kd.R_drewN | apply Kd.R_drew)); exact HO_5.out) hb); have n1_ := Aside0.mk (blk_below (g := gb136) (o := .cells #[.slice (some ad141) l0_0.length c0_0] 26 (0, 0)) (by (with_reducible repeat (first | refine blk_drewN ?_ _ | refine blk_drew ?_ | refine blk_alloc ?_ _)); exact BK136.out) hb); have n2_ := Aside0.mk (below_step (by repeat (first | (with_reducible first | exact HB.out | apply below_alloc | apply pw_below_drewN | apply below_drew1 | refine below_set ?_ GE136.out) | exact HB.out)) hb); have n3_ := Aside0.mk (hbox); have n4_ := Aside0.mk ((by rw [hg]; exact (below_size (by repeat (first | (with_reducible first | exact HB.out | apply below_alloc | apply pw_below_drewN | apply below_drew1 | refine below_set ?_ GE136.out) | exact HB.out))) : w.heap.size ≤ gb142)); have n5_ := Aside0.mk ((by rw [hg]; exact (below_size (by repeat (first | (with_reducible first | exact HB.out | apply below_alloc | apply pw_below_drewN | apply below_drew1 | refine below_set ?_ GE136.out) | exact HB.out))) : w.heap.size ≤ gb142)); have n6_ := Aside0.mk ((by rw [hg]; exact Nat.ne_of_lt (blk_lt (g := gb136) (o := .cells #[.slice (some ad141) l0_0.length c0_0] 26 (0, 0)) (by (with_reducible repeat (first | refine blk_drewN ?_ _ | refine blk_drew ?_ | refine blk_alloc ?_ _)); exact BK136.out)) : gb136 ≠ gb142)); have n7_ := Aside0.mk ((by rw [hg]; exact Nat.ne_of_gt (blk_lt (g := gb136) (o := .cells #[.slice (some ad141) l0_0.length c0_0] 26 (0, 0)) (by (with_reducible repeat (first | refine blk_drewN ?_ _ | refine blk_drew ?_ | refine blk_alloc ?_ _)); exact BK136.out)) : gb142 ≠ gb136)); clear HO_5; clear BK136; clear HB; have HO_5 := n0_; have BK136 := n1_; have HB := n2_; have BK142 := n3_; have GW142 := n4_; have GE142 := n5_; have NB136_142 := n6_; have NB142_136 := n7_; clear n0_ n1_ n2_ n3_ n4_ n5_ n6_ n7_; clear hb hbox hg; have hnb22 := NB142_136.out; have hnc22 := NB136_142.out; have hcz23_0 : w21.cell? ⟨gb142, 0, none⟩ = some (.int .i64 0) := (blk_cell BK142.out 0).trans rfl; have hcz23_1 : w21.cell? ⟨gb142, 1, none⟩ = some (.int .i64 0) := (blk_cell BK142.out 1).trans rfl; have hcz23_2 : w21.cell? ⟨gb142, 2, none⟩ = some (.int .i64 0) := (blk_cell BK142.out 2).trans rfl; have hfz23_0 := blk_frozen BK142.out 0; have hfz23_1 := blk_frozen BK142.out 1; have hfz23_2 := blk_frozen BK142.out 2))
                        have n0_ : Aside0 (Kd.R Kd.string 9 (((w21.setCell ⟨gb142, 0, none⟩ (.int .i64 ((rd_T47 l0_0 x17_1).f0))).setCell ⟨gb142, 1, none⟩ (.int .i64 ((rd_T47 l0_0 x17_1).f1))).setCell ⟨gb142, 2, none⟩ (.int .i64 ((rd_T47 l0_0 x17_1).f2))) w.heap.size (fun _ => True) u5 x5_1) := ⟨by (with_reducible repeat (first | apply Kd.R_alloc | apply Kd.R_drewN | apply Kd.R_drew)); exact Kd.R_mono (Kd.R_far (p := ⟨gb142, 2, none⟩) (Kd.R_far (p := ⟨gb142, 1, none⟩) (Kd.R_far (p := ⟨gb142, 0, none⟩) (Kd.R_types HO_5.out BK142.out (by decide)) (fun _ hk => hk.2) (.int .i64 ((rd_T47 l0_0 x17_1).f0))) (fun _ hk => hk.2) (.int .i64 ((rd_T47 l0_0 x17_1).f1))) (fun _ hk => hk.2) (.int .i64 ((rd_T47 l0_0 x17_1).f2))) (fun _ hk => trivial)⟩
                        have n1_ : Aside0 ((((w21.setCell ⟨gb142, 0, none⟩ (.int .i64 ((rd_T47 l0_0 x17_1).f0))).setCell ⟨gb142, 1, none⟩ (.int .i64 ((rd_T47 l0_0 x17_1).f1))).setCell ⟨gb142, 2, none⟩ (.int .i64 ((rd_T47 l0_0 x17_1).f2))).heap[gb136]? = some (.cells #[.slice (some ad141) l0_0.length c0_0] 26 (0, 0))) := ⟨by (with_reducible repeat (first | refine blk_drewN ?_ _ | refine blk_drew ?_ | refine blk_alloc ?_ _)); refine blk_far ?_ NB136_142.out _; (with_reducible repeat (first | refine blk_drewN ?_ _ | refine blk_drew ?_ | refine blk_alloc ?_ _)); refine blk_far ?_ NB136_142.out _; (with_reducible repeat (first | refine blk_drewN ?_ _ | refine blk_drew ?_ | refine blk_alloc ?_ _)); refine blk_far ?_ NB136_142.out _; (with_reducible repeat (first | refine blk_drewN ?_ _ | refine blk_drew ?_ | refine blk_alloc ?_ _)); exact BK136.out⟩
                        have n2_ : Aside0 ((((w21.setCell ⟨gb142, 0, none⟩ (.int .i64 ((rd_T47 l0_0 x17_1).f0))).setCell ⟨gb142, 1, none⟩ (.int .i64 ((rd_T47 l0_0 x17_1).f1))).setCell ⟨gb142, 2, none⟩ (.int .i64 ((rd_T47 l0_0 x17_1).f2))).heap[gb142]? = some (.cells #[.int .i64 ((rd_T47 l0_0 x17_1).f0), .int .i64 ((rd_T47 l0_0 x17_1).f1), .int .i64 ((rd_T47 l0_0 x17_1).f2)] 47 (0, 0))) := ⟨by (with_reducible repeat (first | refine blk_drewN ?_ _ | refine blk_drew ?_ | refine blk_alloc ?_ _)); refine blk_put (cs := #[.int .i64 ((rd_T47 l0_0 x17_1).f0), .int .i64 ((rd_T47 l0_0 x17_1).f1), .int .i64 0]) ?_ 2 _ rfl; (with_reducible repeat (first | refine blk_drewN ?_ _ | refine blk_drew ?_ | refine blk_alloc ?_ _)); refine blk_put (cs := #[.int .i64 ((rd_T47 l0_0 x17_1).f0), .int .i64 0, .int .i64 0]) ?_ 1 _ rfl; (with_reducible repeat (first | refine blk_drewN ?_ _ | refine blk_drew ?_ | refine blk_alloc ?_ _)); refine blk_put (cs := #[.int .i64 0, .int .i64 0, .int .i64 0]) ?_ 0 _ rfl; (with_reducible repeat (first | refine blk_drewN ?_ _ | refine blk_drew ?_ | refine blk_alloc ?_ _)); exact BK142.out⟩
                        have n3_ : Aside0 (Below w.heap.size w (((w21.setCell ⟨gb142, 0, none⟩ (.int .i64 ((rd_T47 l0_0 x17_1).f0))).setCell ⟨gb142, 1, none⟩ (.int .i64 ((rd_T47 l0_0 x17_1).f1))).setCell ⟨gb142, 2, none⟩ (.int .i64 ((rd_T47 l0_0 x17_1).f2)))) := ⟨by repeat (first | (with_reducible first | exact HB.out | apply below_alloc | apply pw_below_drewN | apply below_drew1 | refine below_set ?_ GE136.out | refine below_set ?_ GE142.out) | exact HB.out)⟩
                        (try clear HO_5)
                        (try clear BK136)
                        (try clear BK142)
                        (try clear HB)
                        generalize (((w21.setCell ⟨gb142, 0, none⟩ (.int .i64 ((rd_T47 l0_0 x17_1).f0))).setCell ⟨gb142, 1, none⟩ (.int .i64 ((rd_T47 l0_0 x17_1).f1))).setCell ⟨gb142, 2, none⟩ (.int .i64 ((rd_T47 l0_0 x17_1).f2))) = w24 at n0_ n1_ n2_ n3_ ⊢
                        have HO_5 := n0_
                        have BK136 := n1_
                        have BK142 := n2_
                        have HB := n3_
                        clear n0_ n1_ n2_ n3_
                        have n0_ := Aside0.mk (Kd.R_drew HO_5.out)
                        have n1_ := Aside0.mk (blk_drew BK136.out)
                        have n2_ := Aside0.mk (blk_drew BK142.out)
                        have n3_ := Aside0.mk (below_drew1 HB.out)
                        clear HO_5
                        clear BK136
                        clear BK142
                        clear HB
                        have HO_5 := n0_
                        have BK136 := n1_
                        have BK142 := n2_
                        have HB := n3_
                        clear n0_ n1_ n2_ n3_
                        refine start_ (n := 17) (S := fun w' => w'.cell? ⟨gb142, 0, none⟩ = some (.int .i64 ((rd_T47 l0_0 x17_1).f0)) ∧ w'.cell? ⟨gb142, 1, none⟩ = some (.int .i64 ((rd_T47 l0_0 x17_1).f1)) ∧ w'.cell? ⟨gb142, 2, none⟩ = some (.int .i64 ((rd_T47 l0_0 x17_1).f2))) (ds := []) #[false, false, false, false, false, false, false, false, false, false, false, false, false, false, false, false, false] (by kernel_rfl) rfl rfl ⟨(blk_cell BK142.out 0).trans rfl, (blk_cell BK142.out 1).trans rfl, (blk_cell BK142.out 2).trans rfl⟩ (fun hHeld => ?_); refine with_tabW pack_Print.tab8 pack_Print.bits8 (fun HT_ HW_ => ?_)
                        generalize w24.drew = w25 at HO_5 BK136 BK142 HB hHeld ⊢
                        refine pure_ (i := 0) (N := some 21) (v := ?_) (a' := ?_) #[true, false, false, false, false, false, false, false, false, false, false, false, false, false, false, false, false] rfl rfl (any_of HT_.out (by kernel_rfl)) (fun _ _ _ h => h) (Or.inl ⟨by rfl, ?_⟩) ?_ ?_
                        rotate_left
                        · intro w'
                          go_simp
                          with_reducible rfl
                        rotate_left
                        · simp only [Act.put, List.setIfInBounds_toArray, List.set_cons_zero, List.set_cons_succ, i64_w, i32_w]
                          rfl
                        refine pure_ (i := 1) (N := some 22) (v := ?_) (a' := ?_) #[true, true, false, false, false, false, false, false, false, false, false, false, false, false, false, false, false] rfl rfl (any_of HT_.out (by kernel_rfl)) (fun _ _ _ h => h) (Or.inl ⟨by rfl, ?_⟩) ?_ ?_
                        rotate_left
                        · intro w'
                          go_simp
                          with_reducible rfl
                        rotate_left
                        · simp only [Act.put, List.setIfInBounds_toArray, List.set_cons_zero, List.set_cons_succ, i64_w, i32_w]
                          rfl
                        refine pure_ (i := 5) (N := some 26) (v := ?_) (a' := ?_) #[true, true, false, false, false, true, false, false, false, false, false, false, false, false, false, false, false] rfl rfl (any_of HT_.out (by kernel_rfl)) (fun _ _ _ h => h) (Or.inl ⟨by rfl, ?_⟩) ?_ ?_
                        rotate_left
                        · intro w'
                          go_simp
                          with_reducible rfl
                        rotate_left
                        · simp only [Act.put, List.setIfInBounds_toArray, List.set_cons_zero, List.set_cons_succ, i64_w, i32_w]
                          rfl
                        refine pure_ (i := 10) (N := some 31) (v := ?_) (a' := ?_) #[true, true, false, false, false, true, false, false, false, false, true, false, false, false, false, false, false] rfl rfl (any_of HT_.out (by kernel_rfl)) (fun _ _ _ h => h) (Or.inl ⟨by rfl, ?_⟩) ?_ ?_
                        rotate_left
                        · intro w'
                          go_simp
                          with_reducible rfl
                        rotate_left
                        · simp only [Act.put, List.setIfInBounds_toArray, List.set_cons_zero, List.set_cons_succ, i64_w, i32_w]
                          rfl
                        refine take_ (i := 2) (N := some 23) (v := ?_) (a' := ?_) #[true, true, true, false, false, true, false, false, false, false, true, false, false, false, false, false, false] rfl rfl (take_ofW HT_.out HW_.out (by kernel_rfl)) (fun _ _ _ h => h) (Or.inl ⟨by rfl, ?_⟩) hHeld ?_ ?_
                        rotate_left
                        · rintro w' ⟨s0, s1, s2⟩
                          go_simp
                          with_reducible rfl
                        rotate_left
                        · simp only [Act.put, List.setIfInBounds_toArray, List.set_cons_zero, List.set_cons_succ, i64_w, i32_w]
                          rfl
                        refine take_ (i := 6) (N := some 27) (v := ?_) (a' := ?_) #[true, true, true, false, false, true, true, false, false, false, true, false, false, false, false, false, false] rfl rfl (take_ofW HT_.out HW_.out (by kernel_rfl)) (fun _ _ _ h => h) (Or.inl ⟨by rfl, ?_⟩) hHeld ?_ ?_
                        rotate_left
                        · rintro w' ⟨s0, s1, s2⟩
                          go_simp
                          with_reducible rfl
                        rotate_left
                        · simp only [Act.put, List.setIfInBounds_toArray, List.set_cons_zero, List.set_cons_succ, i64_w, i32_w]
                          rfl
                        refine take_ (i := 11) (N := some 32) (v := ?_) (a' := ?_) #[true, true, true, false, false, true, true, false, false, false, true, true, false, false, false, false, false] rfl rfl (take_ofW HT_.out HW_.out (by kernel_rfl)) (fun _ _ _ h => h) (Or.inl ⟨by rfl, ?_⟩) hHeld ?_ ?_
                        rotate_left
                        · rintro w' ⟨s0, s1, s2⟩
                          go_simp
                          with_reducible rfl
                        rotate_left
                        · simp only [Act.put, List.setIfInBounds_toArray, List.set_cons_zero, List.set_cons_succ, i64_w, i32_w]
                          rfl
                        refine one_ (i := 3) (N := some 24) #[true, true, true, true, false, true, true, false, false, false, true, true, false, false, false, false, false] rfl rfl (one_of HT_.out (by kernel_rfl)) (by decide) (fun K hK => ?_)
                        refine goes_ Tryz.func24 (by kernel_rfl) rfl #[.int .i64 ((rd_T47 l0_0 x17_1).f0)] (by rfl) rfl rfl (by (try simp only [List.map_toArray, List.map_cons, List.map_nil]); first | done | rfl | (simp only [List.length_drop, List.length_take]; rfl)) ?_
                        with_reducible refine (strconv_Itoa.calls ((rd_T47 l0_0 x17_1).f0) t143 _ ?hgl_ A13.out).mono ?_
                        case hgl_ => exact HGl.out.below (by repeat (first | (with_reducible first | exact HB.out | apply below_alloc | apply pw_below_drewN | apply below_drew1 | refine below_set ?_ GE136.out | refine below_set ?_ GE142.out) | exact HB.out)) (Nat.le_refl _)
                        rintro e w26 ⟨rfl, hb⟩
                        refine ⟨_, rfl, ?_⟩
                        have n0_ := Aside0.mk (Kd.R_below (by (with_reducible repeat (first | apply Kd.R_alloc | apply Kd.R_drewN | apply Kd.R_drew)); exact HO_5.out) hb)
                        have n1_ := Aside0.mk (blk_below (g := gb136) (o := .cells #[.slice (some ad141) l0_0.length c0_0] 26 (0, 0)) (by (with_reducible repeat (first | refine blk_drewN ?_ _ | refine blk_drew ?_ | refine blk_alloc ?_ _)); exact BK136.out) hb)
                        have n2_ := Aside0.mk (blk_below (g := gb142) (o := .cells #[.int .i64 ((rd_T47 l0_0 x17_1).f0), .int .i64 ((rd_T47 l0_0 x17_1).f1), .int .i64 ((rd_T47 l0_0 x17_1).f2)] 47 (0, 0)) (by (with_reducible repeat (first | refine blk_drewN ?_ _ | refine blk_drew ?_ | refine blk_alloc ?_ _)); exact BK142.out) hb)
                        have n3_ := Aside0.mk (below_step (by repeat (first | (with_reducible first | exact HB.out | apply below_alloc | apply pw_below_drewN | apply below_drew1 | refine below_set ?_ GE136.out | refine below_set ?_ GE142.out) | exact HB.out)) hb)
                        clear HO_5
                        clear BK136
                        clear BK142
                        clear HB
                        have HO_5 := n0_
                        have BK136 := n1_
                        have BK142 := n2_
                        have HB := n3_
                        clear n0_ n1_ n2_ n3_
                        (try clear hb)
                        (try clear hb2)
                        (try clear hk)
                        (try clear hi)
                        refine hK.out _ _ ⟨(blk_cell BK142.out 0).trans rfl, (blk_cell BK142.out 1).trans rfl, (blk_cell BK142.out 2).trans rfl⟩ (fun hHeld => ?_)
                        clear hK K
                        refine norm_ (a' := ?_) ?_ ?_
                        rotate_left
                        · show Act.put _ (some 24) _ = _
                          simp only [Act.put, List.setIfInBounds_toArray, List.set_cons_zero, List.set_cons_succ, i64_w, i32_w]
                          rfl
                        refine pure_ (i := 4) (N := some 25) (v := ?_) (a' := ?_) #[true, true, true, true, true, true, true, false, false, false, true, true, false, false, false, false, false] rfl rfl (any_of HT_.out (by kernel_rfl)) (fun _ _ _ h => h) (Or.inl ⟨by rfl, ?_⟩) ?_ ?_
                        rotate_left
                        · intro w'
                          go_simp
                          with_reducible rfl
                        rotate_left
                        · simp only [Act.put, List.setIfInBounds_toArray, List.set_cons_zero, List.set_cons_succ, i64_w, i32_w]
                          rfl
                        refine one_ (i := 7) (N := some 28) #[true, true, true, true, true, true, true, true, false, false, true, true, false, false, false, false, false] rfl rfl (one_of HT_.out (by kernel_rfl)) (by decide) (fun K hK => ?_)
                        refine goes_ Tryz.func24 (by kernel_rfl) rfl #[.int .i64 ((rd_T47 l0_0 x17_1).f1)] (by rfl) rfl rfl (by (try simp only [List.map_toArray, List.map_cons, List.map_nil]); first | done | rfl | (simp only [List.length_drop, List.length_take]; rfl)) ?_
                        with_reducible refine (strconv_Itoa.calls ((rd_T47 l0_0 x17_1).f1) t144 _ ?hgl_ A15.out).mono ?_
                        case hgl_ => exact HGl.out.below (by repeat (first | (with_reducible first | exact HB.out | apply below_alloc | apply pw_below_drewN | apply below_drew1 | refine below_set ?_ GE136.out | refine below_set ?_ GE142.out) | exact HB.out)) (Nat.le_refl _)
                        rintro e w27 ⟨rfl, hb⟩
                        refine ⟨_, rfl, ?_⟩
                        have n0_ := Aside0.mk (Kd.R_below (by (with_reducible repeat (first | apply Kd.R_alloc | apply Kd.R_drewN | apply Kd.R_drew)); exact HO_5.out) hb)
                        have n1_ := Aside0.mk (blk_below (g := gb136) (o := .cells #[.slice (some ad141) l0_0.length c0_0] 26 (0, 0)) (by (with_reducible repeat (first | refine blk_drewN ?_ _ | refine blk_drew ?_ | refine blk_alloc ?_ _)); exact BK136.out) hb)
                        have n2_ := Aside0.mk (blk_below (g := gb142) (o := .cells #[.int .i64 ((rd_T47 l0_0 x17_1).f0), .int .i64 ((rd_T47 l0_0 x17_1).f1), .int .i64 ((rd_T47 l0_0 x17_1).f2)] 47 (0, 0)) (by (with_reducible repeat (first | refine blk_drewN ?_ _ | refine blk_drew ?_ | refine blk_alloc ?_ _)); exact BK142.out) hb)
                        have n3_ := Aside0.mk (below_step (by repeat (first | (with_reducible first | exact HB.out | apply below_alloc | apply pw_below_drewN | apply below_drew1 | refine below_set ?_ GE136.out | refine below_set ?_ GE142.out) | exact HB.out)) hb)
                        clear HO_5
                        clear BK136
                        clear BK142
                        clear HB
                        have HO_5 := n0_
                        have BK136 := n1_
                        have BK142 := n2_
                        have HB := n3_
                        clear n0_ n1_ n2_ n3_
                        (try clear hb)
                        (try clear hb2)
                        (try clear hk)
                        (try clear hi)
                        refine hK.out _ _ ⟨(blk_cell BK142.out 0).trans rfl, (blk_cell BK142.out 1).trans rfl, (blk_cell BK142.out 2).trans rfl⟩ (fun hHeld => ?_)
                        clear hK K
                        refine norm_ (a' := ?_) ?_ ?_
                        rotate_left
                        · show Act.put _ (some 28) _ = _
                          simp only [Act.put, List.setIfInBounds_toArray, List.set_cons_zero, List.set_cons_succ, i64_w, i32_w]
                          rfl
                        refine pure_ (i := 8) (N := some 29) (v := ?_) (a' := ?_) #[true, true, true, true, true, true, true, true, true, false, true, true, false, false, false, false, false] rfl rfl (any_of HT_.out (by kernel_rfl)) (fun _ _ _ h => h) (Or.inl ⟨by rfl, ?_⟩) ?_ ?_
                        rotate_left
                        · intro w'
                          go_simp
                          with_reducible rfl
                        rotate_left
                        · simp only [Act.put, List.setIfInBounds_toArray, List.set_cons_zero, List.set_cons_succ, i64_w, i32_w]
                          rfl
                        refine pure_ (i := 9) (N := some 30) (v := ?_) (a' := ?_) #[true, true, true, true, true, true, true, true, true, true, true, true, false, false, false, false, false] rfl rfl (any_of HT_.out (by kernel_rfl)) (fun _ _ _ h => h) (Or.inl ⟨by rfl, ?_⟩) ?_ ?_
                        rotate_left
                        · intro w'
                          go_simp
                          with_reducible rfl
                        rotate_left
                        · simp only [Act.put, List.setIfInBounds_toArray, List.set_cons_zero, List.set_cons_succ, i64_w, i32_w]
                          rfl
                        refine one_ (i := 12) (N := some 33) #[true, true, true, true, true, true, true, true, true, true, true, true, true, false, false, false, false] rfl rfl (one_of HT_.out (by kernel_rfl)) (by decide) (fun K hK => ?_)
                        refine goes_ Tryz.func24 (by kernel_rfl) rfl #[.int .i64 ((rd_T47 l0_0 x17_1).f2)] (by rfl) rfl rfl (by (try simp only [List.map_toArray, List.map_cons, List.map_nil]); first | done | rfl | (simp only [List.length_drop, List.length_take]; rfl)) ?_
                        with_reducible refine (strconv_Itoa.calls ((rd_T47 l0_0 x17_1).f2) t145 _ ?hgl_ A18.out).mono ?_
                        case hgl_ => exact HGl.out.below (by repeat (first | (with_reducible first | exact HB.out | apply below_alloc | apply pw_below_drewN | apply below_drew1 | refine below_set ?_ GE136.out | refine below_set ?_ GE142.out) | exact HB.out)) (Nat.le_refl _)
                        rintro e w28 ⟨rfl, hb⟩
                        refine ⟨_, rfl, ?_⟩
                        have n0_ := Aside0.mk (Kd.R_below (by (with_reducible repeat (first | apply Kd.R_alloc | apply Kd.R_drewN | apply Kd.R_drew)); exact HO_5.out) hb)
                        have n1_ := Aside0.mk (blk_below (g := gb136) (o := .cells #[.slice (some ad141) l0_0.length c0_0] 26 (0, 0)) (by (with_reducible repeat (first | refine blk_drewN ?_ _ | refine blk_drew ?_ | refine blk_alloc ?_ _)); exact BK136.out) hb)
                        have n2_ := Aside0.mk (blk_below (g := gb142) (o := .cells #[.int .i64 ((rd_T47 l0_0 x17_1).f0), .int .i64 ((rd_T47 l0_0 x17_1).f1), .int .i64 ((rd_T47 l0_0 x17_1).f2)] 47 (0, 0)) (by (with_reducible repeat (first | refine blk_drewN ?_ _ | refine blk_drew ?_ | refine blk_alloc ?_ _)); exact BK142.out) hb)
                        have n3_ := Aside0.mk (below_step (by repeat (first | (with_reducible first | exact HB.out | apply below_alloc | apply pw_below_drewN | apply below_drew1 | refine below_set ?_ GE136.out | refine below_set ?_ GE142.out) | exact HB.out)) hb)
                        clear HO_5
                        clear BK136
                        clear BK142
                        clear HB
                        have HO_5 := n0_
                        have BK136 := n1_
                        have BK142 := n2_
                        have HB := n3_
                        clear n0_ n1_ n2_ n3_
                        (try clear hb)
                        (try clear hb2)
                        (try clear hk)
                        (try clear hi)
                        refine hK.out _ _ ⟨(blk_cell BK142.out 0).trans rfl, (blk_cell BK142.out 1).trans rfl, (blk_cell BK142.out 2).trans rfl⟩ (fun hHeld => ?_)
                        clear hK K
                        refine norm_ (a' := ?_) ?_ ?_
                        rotate_left
                        · show Act.put _ (some 33) _ = _
                          simp only [Act.put, List.setIfInBounds_toArray, List.set_cons_zero, List.set_cons_succ, i64_w, i32_w]
                          rfl
                        refine pure_ (i := 13) (N := some 34) (v := ?_) (a' := ?_) #[true, true, true, true, true, true, true, true, true, true, true, true, true, true, false, false, false] rfl rfl (any_of HT_.out (by kernel_rfl)) (fun _ _ _ h => h) (Or.inl ⟨by rfl, ?_⟩) ?_ ?_
                        rotate_left
                        · intro w'
                          go_simp
                          with_reducible rfl
                        rotate_left
                        · simp only [Act.put, List.setIfInBounds_toArray, List.set_cons_zero, List.set_cons_succ, i64_w, i32_w]
                          rfl
                        refine one_ (i := 14) (N := some 35) #[true, true, true, true, true, true, true, true, true, true, true, true, true, true, true, false, false] rfl rfl (one_of HT_.out (by kernel_rfl)) (by decide) (fun K hK => ?_)
                        refine value_ (w1 := ?_) (v := ?_) (by rfl) rfl ?_ ?_
                        rotate_left 2
                        · go_simp
                          constructor
                          · rfl
                          · rfl
                        refine hK.out _ _ ⟨(blk_cell (blk_alloc BK142.out _) 0).trans rfl, (blk_cell (blk_alloc BK142.out _) 1).trans rfl, (blk_cell (blk_alloc BK142.out _) 2).trans rfl⟩ (fun hHeld => ?_)
                        clear hK K
                        refine norm_ (a' := ?_) ?_ ?_
                        rotate_left
                        · show Act.put _ (some 35) _ = _
                          simp only [Act.put, List.setIfInBounds_toArray, List.set_cons_zero, List.set_cons_succ, i64_w, i32_w]
                          rfl
                        refine one_ (i := 15) (N := some 36) #[true, true, true, true, true, true, true, true, true, true, true, true, true, true, true, true, false] rfl rfl (one_of HT_.out (by kernel_rfl)) (by decide) (fun K hK => ?_)
                        refine Kd.R_append_step Kd.string (w0 := w) w.heap.size (by rfl) (.tmp 21) (.tmp 35) 51 9 (.string ⟨#[]⟩) 16 rfl Tryz.underlying51 info9 rfl (by decide) (by omega) u5 x5_1 ((((t143 ++ (⟨#[47]⟩ : ByteArray)) ++ t144) ++ (⟨#[47]⟩ : ByteArray)) ++ t145) [.string ((((t143 ++ (⟨#[47]⟩ : ByteArray)) ++ t144) ++ (⟨#[47]⟩ : ByteArray)) ++ t145)] (fun _ => True) (fun _ => False) rfl rfl ?aP (fun _ hk => hk.elim) ?aF ?aO ?aB ?aS ?aL ?_
                        (case aP => exact rfl)
                        (case aB => exact (by repeat (first | (with_reducible first | exact HB.out | apply below_alloc | apply pw_below_drewN | apply below_drew1 | refine below_set ?_ GE136.out | refine below_set ?_ GE142.out) | exact HB.out)))
                        (case aF => exact (fun _ _ => trivial))
                        (case aO => exact (by (with_reducible repeat (first | apply Kd.R_alloc | apply Kd.R_drewN | apply Kd.R_drew)); exact HO_5.out))
                        (case aS => exact (below_size (by repeat (first | (with_reducible first | exact HB.out | apply below_alloc | apply pw_below_drewN | apply below_drew1 | refine below_set ?_ GE136.out | refine below_set ?_ GE142.out) | exact HB.out))))
                        (case aL => have := LMc20.out; omega)
                        intro v147 w29 ho hb hg hat
                        rw [← Ny146.out] at ho
                        have n0_ := Aside0.mk (blk_grown (g := gb136) (o := .cells #[.slice (some ad141) l0_0.length c0_0] 26 (0, 0)) (by (with_reducible repeat (first | refine blk_drewN ?_ _ | refine blk_drew ?_ | refine blk_alloc ?_ _)); exact BK136.out) hg (Kd.R_ne HO_5.out BK136.out (by decide)))
                        have n1_ := Aside0.mk (blk_grown (g := gb142) (o := .cells #[.int .i64 ((rd_T47 l0_0 x17_1).f0), .int .i64 ((rd_T47 l0_0 x17_1).f1), .int .i64 ((rd_T47 l0_0 x17_1).f2)] 47 (0, 0)) (by (with_reducible repeat (first | refine blk_drewN ?_ _ | refine blk_drew ?_ | refine blk_alloc ?_ _)); exact BK142.out) hg (Kd.R_ne HO_5.out BK142.out (by decide)))
                        have n2_ := Aside0.mk (hb)
                        have n3_ := Aside0.mk (ho)
                        clear BK136
                        clear BK142
                        clear HB
                        clear HO_5
                        have BK136 := n0_
                        have BK142 := n1_
                        have HB := n2_
                        have HO148 := n3_
                        clear n0_ n1_ n2_ n3_
                        clear ho hb hg hat
                        refine hK.out _ _ ⟨(blk_cell BK142.out 0).trans rfl, (blk_cell BK142.out 1).trans rfl, (blk_cell BK142.out 2).trans rfl⟩ (fun hHeld => ?_)
                        clear hK K
                        refine norm_ (a' := ?_) ?_ ?_
                        rotate_left
                        · show Act.put _ (some 36) _ = _
                          simp only [Act.put, List.setIfInBounds_toArray, List.set_cons_zero, List.set_cons_succ, i64_w, i32_w]
                          rfl
                        refine pure_ (i := 16) (N := some 5) (v := ?_) (a' := ?_) #[true, true, true, true, true, true, true, true, true, true, true, true, true, true, true, true, true] rfl rfl (any_of HT_.out (by kernel_rfl)) (fun _ _ _ h => h) (Or.inl ⟨by rfl, ?_⟩) ?_ ?_
                        rotate_left
                        · intro w'
                          go_simp
                          with_reducible rfl
                        rotate_left
                        · simp only [Act.put, List.setIfInBounds_toArray, List.set_cons_zero, List.set_cons_succ, i64_w, i32_w]
                          rfl
                        refine done_ (done_of HT_.out (by kernel_rfl)) ?_
                        try go_wp2
                        go_roundg k1
                        case measure => have := HK1.out; omega
                        case rel => exact ⟨(y146), (wrap64 (x17_1 + 1)), (by first | rfl | (simp; done) | (simp [*]; done)), H', ⟨by have := HK1.out; omega⟩, ⟨by (with_reducible repeat (first | apply Kd.R_alloc | apply Kd.R_drewN | apply Kd.R_drew)); exact HO148.out⟩, ⟨by (with_reducible repeat (first | refine blk_drewN ?_ _ | refine blk_drew ?_ | refine blk_alloc ?_ _)); exact BK136.out⟩, ⟨by repeat (first | (with_reducible first | exact HB.out | apply below_alloc | apply pw_below_drewN | apply below_drew1 | refine below_set ?_ GE136.out | refine below_set ?_ GE142.out) | exact HB.out)⟩⟩
                      · rw [if_neg c20] at H
                        exact absurd H (by simp)
                    · rw [if_neg c19] at H
                      exact absurd H (by simp)
                  · rw [if_neg c17] at H
                    exact absurd H (by simp)
                · rw [if_neg c16] at H
                  exact absurd H (by simp)
              · rw [if_neg c14] at H
                exact absurd H (by simp)
            · rw [if_neg c12] at H
              exact absurd H (by simp)
          · rw [if_neg c11] at H
            exact absurd H (by simp)
        · rw [if_neg c10] at H
          have c10b0 : decide (x17_1 < (l0_0.length : Int)) = false := decide_eq_false c10
          clear c10
          replace H := Option.bind_eq_some_iff.mp H
          obtain ⟨t149, A300, H⟩ := H
          replace H : (some (t149, 0)) = some (r1, r2) := H
          have A30 := Aside0.mk A300
          clear A300
          simp only [Option.some.injEq, Prod.mk.injEq] at H
          obtain ⟨rfl, rfl⟩ := H
          obtain ⟨Ao31, co31, eo31⟩ := Kd.R_slice HO_5.out
          subst eo31
          go_wp2_with (first | ((with_reducible refine gate_callee (f := 33) rfl ?_); refine goesL_ (some 39) rfl rfl Tryz.func33 (by kernel_rfl) rfl #[.slice Ao31 x5_1.length co31, .string (⟨#[32]⟩ : ByteArray)] rfl (by (try simp only [List.map_toArray, List.map_cons, List.map_nil]); first | done | rfl | (simp only [List.length_drop, List.length_take]; rfl)) ?_; (with_reducible refine (strings_Join.calls _ _ x5_1 (⟨#[32]⟩ : ByteArray) t149 _ ?side1 ?side2 A30.out).mono ?_); (case side1 => repeat (first | exact (Kd.R_reads' HO_5.out).2.2 | (with_reducible refine Kd.C_alloc ?_ _) | (with_reducible refine Kd.C_drewN ?_ _) | (with_reducible refine Kd.C_drew ?_))); (case side2 => exact (Kd.R_reads' HO_5.out).2.1); rintro e w32 ⟨rfl, hb⟩; refine ⟨_, rfl, ?_⟩; have n0_ := Aside0.mk (Kd.R_below (by (with_reducible repeat (first | apply Kd.R_alloc | apply Kd.R_drewN | apply Kd.R_drew)); exact HO_5.out) hb); have n1_ := Aside0.mk (blk_below (g := gb136) (o := .cells #[.slice A0_0 l0_0.length c0_0] 26 (0, 0)) (by (with_reducible repeat (first | refine blk_drewN ?_ _ | refine blk_drew ?_ | refine blk_alloc ?_ _)); exact BK136.out) hb); have n2_ := Aside0.mk (below_step (by repeat (first | (with_reducible first | exact HB.out | apply below_alloc | apply pw_below_drewN | apply below_drew1 | refine below_set ?_ GE136.out) | exact HB.out)) hb); clear HO_5; clear BK136; clear HB; have HO_5 := n0_; have BK136 := n1_; have HB := n2_; clear n0_ n1_ n2_; (try clear hb); (try clear hb2); (try clear hk); (try clear hi)))
          go_ret2
          exact ⟨by first | rfl | (simp [errW_none, errW_some] <;> rfl) | (simp [*, errW_none, errW_some] <;> rfl), by repeat (first | (with_reducible first | exact HB.out | apply below_alloc | apply pw_below_drewN | apply below_drew1 | refine below_set ?_ GE136.out) | exact HB.out)⟩
  · rw [if_neg c3] at H
    have c3b0 : (t137 == 0) = false := beq_eq_false_iff_ne.mpr c3
    have c3b1 : (t137 != 0) = true := bne_iff_ne.mpr c3
    simp only [Option.some.injEq, Prod.mk.injEq] at H
    obtain ⟨rfl, rfl⟩ := H
    go_enter Tryz.func10, Tryz.ntmps10
    go_wp2_with (first | ((with_reducible refine gate_dst (N := 1) rfl ?_); refine box_event ?hg (N := 1) ?hd (cs := #[.slice A0_0 l0_0.length c0_0]) (t := 26) ?hr ?_; (case hd => rfl); (case hg => rfl); (case hr => first | (go_simp; done) | (go_simp; rfl)); intro gb136 hg w33 hbox hb; have n0_ := Aside0.mk (below_step (by repeat (first | (with_reducible first | exact HB.out | apply below_alloc | apply pw_below_drewN | apply below_drew1) | exact HB.out)) hb); have n1_ := Aside0.mk (hbox); have n2_ := Aside0.mk ((by rw [hg]; exact (below_size (by repeat (first | (with_reducible first | exact HB.out | apply below_alloc | apply pw_below_drewN | apply below_drew1) | exact HB.out))) : w.heap.size ≤ gb136)); have n3_ := Aside0.mk ((by rw [hg]; exact (below_size (by repeat (first | (with_reducible first | exact HB.out | apply below_alloc | apply pw_below_drewN | apply below_drew1) | exact HB.out))) : w.heap.size ≤ gb136)); clear HB; have HB := n0_; have BK136 := n1_; have GW136 := n2_; have GE136 := n3_; clear n0_ n1_ n2_ n3_; clear hb hbox hg; have hcz34_0 : w33.cell? ⟨gb136, 0, none⟩ = some (.slice A0_0 l0_0.length c0_0) := (blk_cell BK136.out 0).trans rfl; have hfz34_0 := blk_frozen BK136.out 0) | ((with_reducible refine gate_callee (f := 32) rfl ?_); refine goesL_ (some 9) rfl rfl Tryz.func32 (by kernel_rfl) rfl #[.agg #[.slice A0_0 l0_0.length c0_0]] rfl (by (try simp only [List.map_toArray, List.map_cons, List.map_nil]); first | done | rfl | (simp only [List.length_drop, List.length_take]; rfl)) ?_; (with_reducible refine (pack_Check.calls k _ _ l0_0 t137 _ ?side1 ?side2 A2.out).mono ?_); (case side1 => repeat (first | exact (Kd.C_below HR0_0.out HB.out) | (with_reducible refine Kd.C_alloc ?_ _) | (with_reducible refine Kd.C_drewN ?_ _) | (with_reducible refine Kd.C_drew ?_))); (case side2 => exact HC0_0.out); rintro e w35 ⟨rfl, hb⟩; refine ⟨_, rfl, ?_⟩; have n0_ := Aside0.mk (blk_below (g := gb136) (o := .cells #[.slice A0_0 l0_0.length c0_0] 26 (0, 0)) (by (with_reducible repeat (first | refine blk_drewN ?_ _ | refine blk_drew ?_ | refine blk_alloc ?_ _)); exact BK136.out) hb); have n1_ := Aside0.mk (below_step (by repeat (first | (with_reducible first | exact HB.out | apply below_alloc | apply pw_below_drewN | apply below_drew1 | refine below_set ?_ GE136.out) | exact HB.out)) hb); clear BK136; clear HB; have BK136 := n0_; have HB := n1_; clear n0_ n1_; (try clear hb); (try clear hb2); (try clear hk); (try clear hi)))
    go_ret2
    exact ⟨by first | rfl | (simp [errW_none, errW_some] <;> rfl) | (simp [*, errW_none, errW_some] <;> rfl), by repeat (first | (with_reducible first | exact HB.out | apply below_alloc | apply pw_below_drewN | apply below_drew1 | refine below_set ?_ GE136.out) | exact HB.out)⟩
end Go.Proofs.YtpldcikmlpegpaaGreatDoor.PB
end
