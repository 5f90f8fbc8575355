/-
A part of the proof of this: The tied card of the law PackOrders of snowlinelaw02 holds: it answers true for all two packs and all two numbers, and changes nothing.
-/
import Derived.Deep.RegionLaw
import Derived.Lib.SliceRun
import Derived.Outline
import Derived.Deep.DeepCutAuto
import Derived.IntWalk
import Derived.Deep.RegionHeld3
import Derived.Test.YtpldcikmlpegpaaDoorPackOrdersA1
import Derived.Test.YtpldcikmlpegpaaDoorPackOrdersA2
section
namespace Go.Proofs.YtpldcikmlpegpaaDoor.PB
open Go.RowKit Go.Proofs.YtpldcikmlpegpaaDoorW.PrintWords Go.Proofs.YtpldcikmlpegpaaDoorW.PrintLast Go.Proofs.YtpldcikmlpegpaaDoorW.PrintMore
attribute [local go_sem] max2_int min2_int max_two min_two max_three min_three max_four min_four   -- for this text's walks alone
set_option linter.unusedVariables false
set_option linter.unusedSimpArgs false
def pack_CheckStep.j0 : Nat → Int → Int → Int → Int → Option (Int)
  | 0, _, _, _, _ => none
  | k + 1, x3, x116000, x116001, x116002 => (pack_from.f x116000 1 6).bind fun t116 => (if t116 = true then ((pack_from.f x116001 0 65536).bind fun t117 => (if t117 = true then ((pack_from.f x116002 0 x3).bind fun t118 => (if t118 = true then (some 0) else (some 21))) else (some 21))) else (some 21))
def pack_CheckStep.f (k : Nat) (a0_0 : Int) (a0_1 : Int) (a0_2 : Int) : Option (Int) := if a0_0 = 1 then (pack_CheckStep.j0 k 65536 a0_0 a0_1 a0_2) else (pack_CheckStep.j0 k 0 a0_0 a0_1 a0_2)
set_option maxHeartbeats 8000000 in
set_option maxRecDepth 100000 in
theorem pack_CheckStep.calls (k : Nat) (a0_0 : Int) (a0_1 : Int) (a0_2 : Int) (r : Int) (w : World) (h : pack_CheckStep.f k a0_0 a0_1 a0_2 = some r) :
    Calls Tryd.prog 46 #[.agg #[.int .i64 a0_0, .int .i64 a0_1, .int .i64 a0_2]] w fun e w' => e = .returned (.int .i64 r) ∧ Below w.heap.size w w' := by
  have hu26 := Tryd.underlying26
  have HB := Aside0.mk (Below.refl w.heap.size w)
  have H : (if a0_0 = 1 then (pack_CheckStep.j0 k 65536 a0_0 a0_1 a0_2) else (pack_CheckStep.j0 k 0 a0_0 a0_1 a0_2)) = some r := h
  clear h
  have HC2 := Aside0.mk H
  clear H
  go_enter Tryd.func46, Tryd.ntmps46
  go_upto_if 6 with (first | ((with_reducible refine gate_dst (N := 1) rfl ?_); refine box_event ?hg (N := 1) ?hd (cs := #[.int .i64 a0_0, .int .i64 a0_1, .int .i64 a0_2]) (t := 26) ?hr ?_; (case hd => rfl); (case hg => rfl); (case hr => first | (go_simp; done) | (go_simp; rfl)); intro gb115 hg w3 hbox hb; have n0_ := Aside0.mk (below_step (by repeat (first | (with_reducible first | exact HB.out | apply below_alloc | apply pw_below_drewN | apply below_drew1) | exact HB.out)) hb); have n1_ := Aside0.mk (hbox); have n2_ := Aside0.mk ((by rw [hg]; exact (below_size (by repeat (first | (with_reducible first | exact HB.out | apply below_alloc | apply pw_below_drewN | apply below_drew1) | exact HB.out))) : w.heap.size ≤ gb115)); have n3_ := Aside0.mk ((by rw [hg]; exact (below_size (by repeat (first | (with_reducible first | exact HB.out | apply below_alloc | apply pw_below_drewN | apply below_drew1) | exact HB.out))) : w.heap.size ≤ gb115)); clear HB; have HB := n0_; have BK115 := n1_; have GW115 := n2_; have GE115 := n3_; clear n0_ n1_ n2_ n3_; clear hb hbox hg; have hcz4_0 : w3.cell? ⟨gb115, 0, none⟩ = some (.int .i64 a0_0) := (blk_cell BK115.out 0).trans rfl; have hcz4_1 : w3.cell? ⟨gb115, 1, none⟩ = some (.int .i64 a0_1) := (blk_cell BK115.out 1).trans rfl; have hcz4_2 : w3.cell? ⟨gb115, 2, none⟩ = some (.int .i64 a0_2) := (blk_cell BK115.out 2).trans rfl; have hfz4_0 := blk_frozen BK115.out 0; have hfz4_1 := blk_frozen BK115.out 1; have hfz4_2 := blk_frozen BK115.out 2))
  (try simp only [Act.put, List.setIfInBounds_toArray, List.set_cons_zero, List.set_cons_succ])
  go_cut [3] (fun v3 wc => ∃ (kq : Nat) (x3_1 : Int), v3 = .int .i64 x3_1 ∧ Aside0 (pack_CheckStep.j0 kq x3_1 a0_0 a0_1 a0_2 = some r) ∧ Aside0 (kq ≤ k) ∧ Aside0 (wc.heap[gb115]? = some (.cells #[.int .i64 a0_0, .int .i64 a0_1, .int .i64 a0_2] 26 (0, 0))) ∧ Aside0 (Below w.heap.size w wc))
  case first =>
    have H := HC2.out
    clear HC2
    by_cases c5 : a0_0 = 1
    · rw [if_pos c5] at H
      have c5b0 : (a0_0 == 1) = true := beq_iff_eq.mpr c5
      have c5b1 : (a0_0 != 1) = false := bne_eq_false_iff_eq.mpr c5
      clear c5
      (first | rw [c5b0] | (simp only [i64_w, i32_w]; rw [c5b0]) | skip)
      have H' := Aside0.mk H
      clear H
      go_wp2
      go_meet
      case rel => exact ⟨_, (65536), (by first | rfl | (simp; done) | (simp [*]; done)), H', ⟨by first | omega | exact Nat.le_refl _⟩, ⟨by (with_reducible repeat (first | refine blk_drewN ?_ _ | refine blk_drew ?_ | refine blk_alloc ?_ _)); exact BK115.out⟩, ⟨by repeat (first | (with_reducible first | exact HB.out | apply below_alloc | apply pw_below_drewN | apply below_drew1 | refine below_set ?_ GE115.out) | exact HB.out)⟩⟩
    · rw [if_neg c5] at H
      have c5b0 : (a0_0 == 1) = false := beq_eq_false_iff_ne.mpr c5
      have c5b1 : (a0_0 != 1) = true := bne_iff_ne.mpr c5
      (first | rw [c5b0] | (simp only [i64_w, i32_w]; rw [c5b0]) | skip)
      have H' := Aside0.mk H
      clear H
      go_wp2
      go_meet
      case rel => exact ⟨_, (0), (by first | rfl | (simp; done) | (simp [*]; done)), H', ⟨by first | omega | exact Nat.le_refl _⟩, ⟨by (with_reducible repeat (first | refine blk_drewN ?_ _ | refine blk_drew ?_ | refine blk_alloc ?_ _)); exact BK115.out⟩, ⟨by repeat (first | (with_reducible first | exact HB.out | apply below_alloc | apply pw_below_drewN | apply below_drew1 | refine below_set ?_ GE115.out) | exact HB.out)⟩⟩
  case rest =>
    clear HC2
    try clear p2
    try clear c4
    try clear c5
    try clear c5b0
    try clear c5b1
    try clear hcz4_0
    try clear hcz4_1
    try clear hcz4_2
    try clear hfz4_0
    try clear hfz4_1
    try clear hfz4_2
    obtain ⟨kq, x3_1, rfl, HA, HJ1, BK115, HB⟩ := hcut
    cases kq with
    | zero => exact absurd HA.out (by simp [pack_CheckStep.j0])
    | succ kj1 =>
      have H := HA.out
      clear HA
      simp only [pack_CheckStep.j0] at H
      replace H := Option.bind_eq_some_iff.mp H
      obtain ⟨t116, A60, H⟩ := H
      replace H : (if t116 = true then ((pack_from.f a0_1 0 65536).bind fun t117 => (if t117 = true then ((pack_from.f a0_2 0 x3_1).bind fun t118 => (if t118 = true then (some 0) else (some 21))) else (some 21))) else (some 21)) = some r := H
      have A6 := Aside0.mk A60
      clear A60
      by_cases c7 : t116 = true
      · subst c7
        have H1 : ((pack_from.f a0_1 0 65536).bind fun t117 => (if t117 = true then ((pack_from.f a0_2 0 x3_1).bind fun t118 => (if t118 = true then (some 0) else (some 21))) else (some 21))) = some r := by rw [if_pos rfl] at H; exact H
        clear H
        have H := H1
        clear H1
        replace H := Option.bind_eq_some_iff.mp H
        obtain ⟨t117, A80, H⟩ := H
        replace H : (if t117 = true then ((pack_from.f a0_2 0 x3_1).bind fun t118 => (if t118 = true then (some 0) else (some 21))) else (some 21)) = some r := H
        have A8 := Aside0.mk A80
        clear A80
        by_cases c9 : t117 = true
        · subst c9
          have H1 : ((pack_from.f a0_2 0 x3_1).bind fun t118 => (if t118 = true then (some 0) else (some 21))) = some r := by rw [if_pos rfl] at H; exact H
          clear H
          have H := H1
          clear H1
          replace H := Option.bind_eq_some_iff.mp H
          obtain ⟨t118, A100, H⟩ := H
          replace H : (if t118 = true then (some 0) else (some 21)) = some r := H
          have A10 := Aside0.mk A100
          clear A100
          by_cases c11 : t118 = true
          · subst c11
            have H1 : (some 0) = some r := by rw [if_pos rfl] at H; exact H
            clear H
            have H := H1
            clear H1
            obtain rfl := Option.some.inj H
            have hcz12_0 : wc.cell? ⟨gb115, 0, none⟩ = some (.int .i64 a0_0) := (blk_cell BK115.out 0).trans rfl
            have hcz12_1 : wc.cell? ⟨gb115, 1, none⟩ = some (.int .i64 a0_1) := (blk_cell BK115.out 1).trans rfl
            have hcz12_2 : wc.cell? ⟨gb115, 2, none⟩ = some (.int .i64 a0_2) := (blk_cell BK115.out 2).trans rfl
            have hfz12_0 := blk_frozen BK115.out 0
            have hfz12_1 := blk_frozen BK115.out 1
            have hfz12_2 := blk_frozen BK115.out 2
            go_wp2_with (first | ((with_reducible refine gate_callee (f := 67) rfl ?_); refine goesL_ (some 9) rfl rfl Tryd.func67 (by kernel_rfl) rfl #[.int .i64 a0_0, .int .i64 1, .int .i64 6] rfl (by (try simp only [List.map_toArray, List.map_cons, List.map_nil]); first | done | rfl | (simp only [List.length_drop, List.length_take]; rfl)) ?_; (with_reducible refine (pack_from.calls a0_0 1 6 true _ A6.out).mono ?_); rintro e w' ⟨rfl, ⟨nd, rfl⟩⟩; refine ⟨_, rfl, ?_⟩) | (go_at_call 67; (with_reducible refine (pack_from.calls a0_1 0 65536 true _ A8.out).mono ?_); rintro e w' ⟨rfl, ⟨nd, rfl⟩⟩) | (go_at_call 67; (with_reducible refine (pack_from.calls a0_2 0 x3_1 true _ A10.out).mono ?_); rintro e w' ⟨rfl, ⟨nd, rfl⟩⟩))
            go_ret
            exact ⟨by first | rfl | (simp [errW_none, errW_some] <;> rfl) | (simp [*, errW_none, errW_some] <;> rfl), by repeat (first | (with_reducible first | exact HB.out | apply below_alloc | apply pw_below_drewN | apply below_drew1 | refine below_set ?_ GE115.out) | exact HB.out)⟩
          · replace c11 := Bool.eq_false_iff.mpr c11
            subst c11
            have H1 : (some 21) = some r := by rw [if_neg (show ¬ (false = true) by decide)] at H; exact H
            clear H
            have H := H1
            clear H1
            obtain rfl := Option.some.inj H
            have hcz13_0 : wc.cell? ⟨gb115, 0, none⟩ = some (.int .i64 a0_0) := (blk_cell BK115.out 0).trans rfl
            have hcz13_1 : wc.cell? ⟨gb115, 1, none⟩ = some (.int .i64 a0_1) := (blk_cell BK115.out 1).trans rfl
            have hcz13_2 : wc.cell? ⟨gb115, 2, none⟩ = some (.int .i64 a0_2) := (blk_cell BK115.out 2).trans rfl
            have hfz13_0 := blk_frozen BK115.out 0
            have hfz13_1 := blk_frozen BK115.out 1
            have hfz13_2 := blk_frozen BK115.out 2
            go_wp2_with (first | ((with_reducible refine gate_callee (f := 67) rfl ?_); refine goesL_ (some 9) rfl rfl Tryd.func67 (by kernel_rfl) rfl #[.int .i64 a0_0, .int .i64 1, .int .i64 6] rfl (by (try simp only [List.map_toArray, List.map_cons, List.map_nil]); first | done | rfl | (simp only [List.length_drop, List.length_take]; rfl)) ?_; (with_reducible refine (pack_from.calls a0_0 1 6 true _ A6.out).mono ?_); rintro e w' ⟨rfl, ⟨nd, rfl⟩⟩; refine ⟨_, rfl, ?_⟩) | (go_at_call 67; (with_reducible refine (pack_from.calls a0_1 0 65536 true _ A8.out).mono ?_); rintro e w' ⟨rfl, ⟨nd, rfl⟩⟩) | (go_at_call 67; (with_reducible refine (pack_from.calls a0_2 0 x3_1 false _ A10.out).mono ?_); rintro e w' ⟨rfl, ⟨nd, rfl⟩⟩))
            go_ret
            exact ⟨by first | rfl | (simp [errW_none, errW_some] <;> rfl) | (simp [*, errW_none, errW_some] <;> rfl), by repeat (first | (with_reducible first | exact HB.out | apply below_alloc | apply pw_below_drewN | apply below_drew1 | refine below_set ?_ GE115.out) | exact HB.out)⟩
        · replace c9 := Bool.eq_false_iff.mpr c9
          subst c9
          have H1 : (some 21) = some r := by rw [if_neg (show ¬ (false = true) by decide)] at H; exact H
          clear H
          have H := H1
          clear H1
          obtain rfl := Option.some.inj H
          have hcz14_0 : wc.cell? ⟨gb115, 0, none⟩ = some (.int .i64 a0_0) := (blk_cell BK115.out 0).trans rfl
          have hcz14_1 : wc.cell? ⟨gb115, 1, none⟩ = some (.int .i64 a0_1) := (blk_cell BK115.out 1).trans rfl
          have hcz14_2 : wc.cell? ⟨gb115, 2, none⟩ = some (.int .i64 a0_2) := (blk_cell BK115.out 2).trans rfl
          have hfz14_0 := blk_frozen BK115.out 0
          have hfz14_1 := blk_frozen BK115.out 1
          have hfz14_2 := blk_frozen BK115.out 2
          go_wp2_with (first | ((with_reducible refine gate_callee (f := 67) rfl ?_); refine goesL_ (some 9) rfl rfl Tryd.func67 (by kernel_rfl) rfl #[.int .i64 a0_0, .int .i64 1, .int .i64 6] rfl (by (try simp only [List.map_toArray, List.map_cons, List.map_nil]); first | done | rfl | (simp only [List.length_drop, List.length_take]; rfl)) ?_; (with_reducible refine (pack_from.calls a0_0 1 6 true _ A6.out).mono ?_); rintro e w' ⟨rfl, ⟨nd, rfl⟩⟩; refine ⟨_, rfl, ?_⟩) | (go_at_call 67; (with_reducible refine (pack_from.calls a0_1 0 65536 false _ A8.out).mono ?_); rintro e w' ⟨rfl, ⟨nd, rfl⟩⟩))
          go_ret
          exact ⟨by first | rfl | (simp [errW_none, errW_some] <;> rfl) | (simp [*, errW_none, errW_some] <;> rfl), by repeat (first | (with_reducible first | exact HB.out | apply below_alloc | apply pw_below_drewN | apply below_drew1 | refine below_set ?_ GE115.out) | exact HB.out)⟩
      · replace c7 := Bool.eq_false_iff.mpr c7
        subst c7
        have H1 : (some 21) = some r := by rw [if_neg (show ¬ (false = true) by decide)] at H; exact H
        clear H
        have H := H1
        clear H1
        obtain rfl := Option.some.inj H
        have hcz15_0 : wc.cell? ⟨gb115, 0, none⟩ = some (.int .i64 a0_0) := (blk_cell BK115.out 0).trans rfl
        have hcz15_1 : wc.cell? ⟨gb115, 1, none⟩ = some (.int .i64 a0_1) := (blk_cell BK115.out 1).trans rfl
        have hcz15_2 : wc.cell? ⟨gb115, 2, none⟩ = some (.int .i64 a0_2) := (blk_cell BK115.out 2).trans rfl
        have hfz15_0 := blk_frozen BK115.out 0
        have hfz15_1 := blk_frozen BK115.out 1
        have hfz15_2 := blk_frozen BK115.out 2
        go_wp2_with (first | ((with_reducible refine gate_callee (f := 67) rfl ?_); refine goesL_ (some 9) rfl rfl Tryd.func67 (by kernel_rfl) rfl #[.int .i64 a0_0, .int .i64 1, .int .i64 6] rfl (by (try simp only [List.map_toArray, List.map_cons, List.map_nil]); first | done | rfl | (simp only [List.length_drop, List.length_take]; rfl)) ?_; (with_reducible refine (pack_from.calls a0_0 1 6 false _ A6.out).mono ?_); rintro e w' ⟨rfl, ⟨nd, rfl⟩⟩; refine ⟨_, rfl, ?_⟩))
        go_ret
        exact ⟨by first | rfl | (simp [errW_none, errW_some] <;> rfl) | (simp [*, errW_none, errW_some] <;> rfl), by repeat (first | (with_reducible first | exact HB.out | apply below_alloc | apply pw_below_drewN | apply below_drew1 | refine below_set ?_ GE115.out) | exact HB.out)⟩
end Go.Proofs.YtpldcikmlpegpaaDoor.PB
end
section
namespace Go.Proofs.YtpldcikmlpegpaaDoor.PB
open Go.RowKit Go.Proofs.YtpldcikmlpegpaaDoor.Col Go.Proofs.YtpldcikmlpegpaaDoorW.PrintWords Go.Proofs.YtpldcikmlpegpaaDoorW.PrintLast Go.Proofs.YtpldcikmlpegpaaDoorW.PrintMore
attribute [local go_sem] max2_int min2_int max_two min_two
def pack_Apply.f (l : List S48) (k m cold : Int) : Option (List S48 × Int × Int) :=
  (pack_Check.f 200 l).bind fun e => if e = 0 then ((pack_CheckStep.f 5 k m cold).bind fun e2 => if e2 = 0 then
    ((pack_Check.f 200 ((C.of l).step k m cold).live).bind fun e3 => if e3 = 0 then some (((C.of l).step k m cold).live, ((C.of l).step k m cold).out, 0) else some ([], 0, 2))
    else some ([], 0, e2)) else some ([], 0, e)
theorem check_len {k : Nat} {l : List S48} (h : pack_Check.f k l = some 0) : l.length ≤ 64 := by
  unfold pack_Check.f at h
  split at h
  · simp at h
  · omega
theorem checkStep_ok {j : Nat} {k m cold : Int} (h : pack_CheckStep.f j k m cold = some 0) : 1 ≤ k ∧ k ≤ 6 ∧ 0 ≤ m ∧ m ≤ 65536 := by
  cases j with
  | zero => simp [pack_CheckStep.f, pack_CheckStep.j0] at h
  | succ j =>
    unfold pack_CheckStep.f at h
    simp only [pack_CheckStep.j0, pack_from.f] at h
    by_cases h1 : k ≥ 1 <;> by_cases h2 : k ≤ 6 <;> by_cases h3 : m ≥ 0 <;> by_cases h4 : m ≤ 65536 <;> simp [h1, h2, h3, h4] at h ⊢ <;> omega
theorem step_inv (c : C) (k m cold : Int) (ht : c.top ≤ c.n) : (c.step k m cold).n = c.n ∧ (c.step k m cold).top ≤ c.n := by
  have tm : ∀ (f : C → C), RoundC f → ∀ (j : Nat) (d : C), d.top ≤ d.n → (C.times f j d).n = d.n ∧ (C.times f j d).top ≤ d.n := by
    intro f hf j
    induction j with
    | zero => intro d hd; exact ⟨rfl, hd⟩
    | succ j ih =>
      intro d hd
      simp only [C.times]
      split
      · exact ⟨rfl, hd⟩
      · rename_i hne
        have h1 := hf.n d
        have h2 := hf.top d (by omega)
        have := ih (f d) (by omega)
        rw [h1] at this
        exact this
  unfold C.step
  split
  · split
    · exact ⟨rfl, by show c.top - 1 ≤ c.n; omega⟩
    · exact ⟨rfl, ht⟩
  · split
    · exact ⟨rfl, ht⟩
    · split
      · exact tm _ melt_roundC _ _ ht
      · split
        · unfold C.freeze
          simp only []
          split <;> exact ⟨rfl, ht⟩
        · split
          · exact tm _ vanish_roundC _ _ ht
          · exact ⟨rfl, ht⟩
theorem do_calls (w : World) (g : Nat) (c : C) (k m cold : Int) (h : Is w g c) (hn65 : c.n ≤ 65) (h1 : 1 ≤ c.top) (ht : c.top ≤ c.n) (hk : 1 ≤ k) (hk6 : k ≤ 6) (hm : m ≤ 9223372036854775807) :
    Calls Tryd.prog 60 #[.pointer (some ⟨g, 0, none⟩), .agg #[.int .i64 k, .int .i64 m, .int .i64 cold]] w fun e w' => e = .returned (.tuple #[]) ∧ Is w' g (c.step k m cold) ∧ KeepG g w w' := by
  have hc : k = 1 ∨ k = 2 ∨ k = 3 ∨ k = 4 ∨ k = 5 ∨ k = 6 := by omega
  rcases hc with rfl | rfl | rfl | rfl | rfl | rfl
  · exact do_snow w g c m cold h hn65 h1 ht
  · exact do_rain w g c m cold h hn65 ht
  · exact do_melt w g c m cold h hn65 ht hm
  · exact do_freeze w g c m cold h hn65 ht
  · exact do_loss w g c m cold h hn65 ht hm
  · exact do_blown w g c m cold h hn65 ht hm
set_option maxRecDepth 100000 in
set_option maxHeartbeats 4000000 in
theorem pack_Apply.calls (A0_0 : Option Addr) (c0_0 : Nat) (l0_0 : List (S48)) (a1_0 : Int) (a1_1 : Int) (a1_2 : Int) (r1 : List (S48)) (r2 : Int) (r3 : Int) (w : World) (hr0_0 : Kd.C k48 w A0_0 l0_0.length l0_0) (hc0_0 : l0_0.length ≤ c0_0) (h : pack_Apply.f l0_0 a1_0 a1_1 a1_2 = some (r1, r2, r3)) :
    Calls Tryd.prog 21 #[.agg #[.slice A0_0 l0_0.length c0_0], .agg #[.int .i64 a1_0, .int .i64 a1_1, .int .i64 a1_2]] w fun e w' => ∃ v0_ : Value, e = .returned (.tuple #[.agg #[v0_], .int .i64 r2, .int .i64 r3]) ∧ Kd.R k48 48 w' w.heap.size (fun _ => True) v0_ r1 ∧ Below w.heap.size w w' := by
  have hu24 := Tryd.underlying24
  have hu26 := Tryd.underlying26
  have HR := Aside0.mk hr0_0
  have HC := Aside0.mk hc0_0
  clear hr0_0 hc0_0
  unfold pack_Apply.f at h
  replace h := Option.bind_eq_some_iff.mp h
  obtain ⟨e1, E1, h⟩ := h
  have HE1 := Aside0.mk E1
  have HH := Aside0.mk h
  clear E1 h
  go_enter Tryd.func21, Tryd.ntmps21
  go_upto_region 1 with (fail)
  obtain ⟨B, hB⟩ : ∃ B, w.heap.size = B := ⟨_, rfl⟩
  obtain ⟨V1, hV1⟩ : ∃ W1, w.alloc (.cells #[.slice A0_0 l0_0.length c0_0] 24 (0, 0)) = W1 := ⟨_, rfl⟩
  obtain ⟨V2, hV2⟩ : ∃ W1, V1.alloc (.cells #[.int .i64 a1_0, .int .i64 a1_1, .int .i64 a1_2] 26 (0, 0)) = W1 := ⟨_, rfl⟩
  obtain ⟨W1, hW1⟩ : ∃ W1, V2.alloc (.cells #[.slice none 0 0] 24 (0, 0)) = W1 := ⟨_, rfl⟩
  have s1 : V1.heap.size = B + 1 := by rw [← hV1, ← hB]; simp
  have s2 : V2.heap.size = B + 2 := by rw [← hV2]; simp [s1]
  have s3 : W1.heap.size = B + 3 := by rw [← hW1]; simp [s2]
  have b1 : Below B w V1 := by rw [← hV1, ← hB]; exact (Below.refl _ _).alloc (Nat.le_refl _) _
  have b2 : Below B w V2 := by rw [← hV2]; exact b1.alloc (by omega) _
  have b3 : Below B w W1 := by rw [← hW1]; exact b2.alloc (by omega) _
  have p0 : W1.heap[B]? = some (.cells #[.slice A0_0 l0_0.length c0_0] 24 (0, 0)) := by rw [← hW1]; refine blk_alloc ?_ _; rw [← hV2]; refine blk_alloc ?_ _; rw [← hV1, ← hB]; exact blk_new _ _
  have p1 : W1.heap[B + 1]? = some (.cells #[.int .i64 a1_0, .int .i64 a1_1, .int .i64 a1_2] 26 (0, 0)) := by rw [← hW1]; refine blk_alloc ?_ _; rw [← hV2, ← s1]; exact blk_new _ _
  have p2 : W1.heap[B + 1 + 1]? = some (.cells #[.slice none 0 0] 24 (0, 0)) := by rw [← hW1, show B + 1 + 1 = V2.heap.size from s2.symm]; exact blk_new _ _
  rw [hV1, hV2, hW1, hB]
  have K : Aside0 (∀ wX : World, Below W1.heap.size W1 wX → wX.heap[B]? = some (.cells #[.slice A0_0 l0_0.length c0_0] 24 (0, 0)) ∧ wX.heap[B + 1]? = some (.cells #[.int .i64 a1_0, .int .i64 a1_1, .int .i64 a1_2] 26 (0, 0)) ∧ wX.heap[B + 1 + 1]? = some (.cells #[.slice none 0 0] 24 (0, 0))) :=
    ⟨fun wX hb => ⟨blk_below p0 hb, blk_below p1 hb, blk_below p2 hb⟩⟩
  have HS3 := Aside0.mk s3
  have HB3 := Aside0.mk b3
  have HBq := Aside0.mk hB
  have F : Aside0 (∀ (wX : World) (v : Value), Below W1.heap.size W1 wX → Below w.heap.size w (wX.setCell ⟨B + 1 + 1, 0, none⟩ v)) :=
    ⟨fun wX v hb => by rw [HBq.out]; exact (HB3.out.trans (hb.mono (by rw [HS3.out]; omega))).setCell (p := ⟨B + 1 + 1, 0, none⟩) (by show B ≤ B + 1 + 1; omega) v⟩
  have q0 : W1.cell? ⟨B, 0, none⟩ = some (.slice A0_0 l0_0.length c0_0) := (blk_cell p0 0).trans rfl
  clear hV1 hV2 hW1 s1 s2 s3 b1 b2 b3 p0 p1 p2 hB
  go_upto_if 15 with (first | (go_at_call 25; refine (pack_Check.calls 200 A0_0 c0_0 l0_0 e1 _ (Kd.C_below HR.out (by rw [HBq.out]; exact HB3.out)) HC.out HE1.out).mono ?_; rintro e w7 ⟨rfl, hb⟩; have HB7 := Aside0.mk hb; clear hb q0))
  by_cases h1 : e1 = 0
  · have z0 : (e1 != 0) = false := by simp [h1]
    have h2 := HH.out
    rw [if_pos h1] at h2
    replace h2 := Option.bind_eq_some_iff.mp h2
    obtain ⟨e2, E2, h2⟩ := h2
    have HE2 := Aside0.mk E2
    have HH2 := Aside0.mk h2
    have HZ1 := Aside0.mk h1
    clear E2 h2 HH h1
    obtain ⟨k0, k1, k2⟩ := K.out _ HB7.out
    have c0 : w7.cell? ⟨B + 1, 0, none⟩ = some (.int .i64 a1_0) := (blk_cell k1 0).trans rfl
    have c1 : w7.cell? ⟨B + 1, 1, none⟩ = some (.int .i64 a1_1) := (blk_cell k1 1).trans rfl
    have c2 : w7.cell? ⟨B + 1, 2, none⟩ = some (.int .i64 a1_2) := (blk_cell k1 2).trans rfl
    clear k0 k1 k2
    go_upto_if 21 with (first | (go_at_call 46; refine (pack_CheckStep.calls 5 a1_0 a1_1 a1_2 e2 _ HE2.out).mono ?_; rintro e w8 ⟨rfl, hb⟩; have HB8 := Aside0.mk (below_step HB7.out hb); clear hb c0 c1 c2 z0))
    by_cases h2 : e2 = 0
    · have z0 : (e2 != 0) = false := by simp [h2]
      have h3 := HH2.out
      rw [if_pos h2] at h3
      replace h3 := Option.bind_eq_some_iff.mp h3
      obtain ⟨e3, E3, h3⟩ := h3
      have HE3 := Aside0.mk E3
      have HH3 := Aside0.mk h3
      have HOK := Aside0.mk (checkStep_ok (h2 ▸ HE2.out))
      have HLN := Aside0.mk (check_len (HZ1.out ▸ HE1.out))
      clear E3 h3 HH2 h2
      obtain ⟨k0, k1, k2⟩ := K.out _ HB8.out
      have q0 : w8.cell? ⟨B, 0, none⟩ = some (.slice A0_0 l0_0.length c0_0) := (blk_cell k0 0).trans rfl
      clear k0 k1 k2
      go_upto_region 8 with (first | (go_at_call 59; refine (of_calls A0_0 c0_0 l0_0 _ (Kd.C_below HR.out (by rw [HBq.out]; exact HB3.out.trans (HB8.out.mono (by rw [HS3.out]; omega)))) HLN.out).mono ?_; rintro e w9 ⟨g, rfl, hI, hg, hb⟩; have HI9 := Aside0.mk hI; have HG := Aside0.mk (Nat.le_trans HB8.out.size hg); have HB9 := Aside0.mk (below_step HB8.out hb); clear hI hg hb q0 z0))
      obtain ⟨d, hd⟩ : ∃ d, (C.of l0_0).step a1_0 a1_1 a1_2 = d := ⟨_, rfl⟩
      have HINV := Aside0.mk (step_inv (C.of l0_0) a1_0 a1_1 a1_2 (show 1 ≤ l0_0.length + 1 by omega))
      rw [hd] at HE3 HH3 HINV
      have HD := Aside0.mk hd
      clear hd
      have HDN : Aside0 (d.n ≤ 65 ∧ d.top ≤ d.n) := ⟨by have h1 := HINV.out.1; have h2 := HINV.out.2; have h3 := HLN.out; have h4 : (C.of l0_0).n = l0_0.length + 1 := rfl; omega⟩
      obtain ⟨k0, k1, k2⟩ := K.out _ HB9.out
      have c0 : w9.cell? ⟨B + 1, 0, none⟩ = some (.int .i64 a1_0) := (blk_cell k1 0).trans rfl
      have c1 : w9.cell? ⟨B + 1, 1, none⟩ = some (.int .i64 a1_1) := (blk_cell k1 1).trans rfl
      have c2 : w9.cell? ⟨B + 1, 2, none⟩ = some (.int .i64 a1_2) := (blk_cell k1 2).trans rfl
      clear k0 k1 k2
      go_upto_region 9 with (first | (go_at_call 60; refine (do_calls _ g (C.of l0_0) a1_0 a1_1 a1_2 HI9.out (by have := HLN.out; show l0_0.length + 1 ≤ 65; omega) (Nat.le_refl _) (by show 1 ≤ l0_0.length + 1; omega) HOK.out.1 HOK.out.2.1 (by have := HOK.out.2.2.2; omega)).mono ?_; rintro e w10 ⟨rfl, hI, hK⟩; have HI10 : Aside0 (Is w10 g d) := ⟨HD.out ▸ hI⟩; have HB10 := Aside0.mk (hK.below HB9.out HG.out HB9.out.size); clear hI hK c0 c1 c2))
      go_upto_if 35 with (first | (go_at_call 61; refine (pack_calls 200 e3 _ g d HI10.out HDN.out.1 HDN.out.2 HE3.out).mono ?_; rintro e w11 ⟨v, rfl, hR, hb⟩; obtain ⟨A3, c3, rfl⟩ := Kd.R_slice hR; have HR11 := Aside0.mk (Kd.R_lower hR HB10.out.size); have HI11 := Aside0.mk (HI10.out.below hb); have HB11 := Aside0.mk (below_step HB10.out hb); clear hR hb))
      obtain ⟨q, hq⟩ : ∃ q, w11.heap.size = q := ⟨_, rfl⟩
      obtain ⟨W12, hW12⟩ : ∃ W12, w11.alloc (.cells #[.slice A3 (limitL e3 d.live).length c3] 24 (0, 0)) = W12 := ⟨_, rfl⟩
      rw [hW12, hq]
      have HB12 : Aside0 (Below W1.heap.size W1 W12) := ⟨by rw [← hW12]; exact HB11.out.alloc HB11.out.size _⟩
      have HQ : Aside0 (W12.heap[q]? = some (.cells #[.slice A3 (limitL e3 d.live).length c3] 24 (0, 0))) := ⟨by rw [← hW12, ← hq]; exact blk_new _ _⟩
      have HR12 : Aside0 (Kd.R k48 48 W12 W1.heap.size (fun _ => True) (.slice A3 (limitL e3 d.live).length c3) (limitL e3 d.live)) := ⟨by rw [← hW12]; exact Kd.R_alloc HR11.out _⟩
      have HI12 : Aside0 (Is W12 g d) := ⟨by rw [← hW12]; exact HI11.out.alloc _⟩
      have HNE : q ≠ B + 1 + 1 := by have := HB11.out.size; have := HS3.out; omega
      have HNE2 : g ≠ B + 1 + 1 := by have := HG.out; have := HS3.out; omega
      clear hW12 hq HB11 HR11 HI11
      obtain ⟨k0, k1, k2⟩ := K.out _ HB12.out
      have HK2 := Aside0.mk k2
      have c4 : W12.cell? ⟨B + 1 + 1, 0, none⟩ = some (.slice none 0 0) := (blk_cell k2 0).trans rfl
      have f4 := blk_frozen k2 0
      have cq : W12.cell? ⟨q, 0, none⟩ = some (.slice A3 (limitL e3 d.live).length c3) := (blk_cell HQ.out 0).trans rfl
      have co := HI12.out.out
      clear k0 k1 k2
      by_cases h3 : e3 = 0
      · have eL : limitE e3 = 0 := if_pos h3
        have z0 : (limitE e3 != 0) = false := by simp [eL]
        have h4 := HH3.out
        rw [if_pos h3] at h4
        simp only [Option.some.injEq, Prod.mk.injEq] at h4
        obtain ⟨rfl, rfl, rfl⟩ := h4
        have HLL : Aside0 (limitL e3 d.live = d.live) := ⟨if_pos h3⟩
        clear h3 eL
        go_upto_region 12 with (fail)
        go_region
        go_wp2
        refine bodyPost_ret (results_ctt rfl _ _ (B + 1 + 1) 24 #[.slice A3 (limitL e3 d.live).length c3] (0, 0) _ rfl (blk_drew (blk_put (cs := #[.slice none 0 0]) HK2.out 0 _ rfl)) Tryd.underlying24 rfl (by kernel_rfl)) rfl ?_
        have hR := Kd.R_lower (R_set_low (i := 0) HR12.out (B := B + 1 + 1) (by have := HS3.out; omega) (.slice A3 (limitL e3 d.live).length c3)) (show w.heap.size ≤ B + 1 + 1 by have := HBq.out; omega)
        rw [HLL.out] at hR ⊢
        exact ⟨_, rfl, Kd.R_drew hR, (F.out _ _ HB12.out).drew⟩
      · have eL : limitE e3 = 2 := if_neg h3
        have z0 : (limitE e3 != 0) = true := by simp [eL]
        have h4 := HH3.out
        rw [if_neg h3] at h4
        simp only [Option.some.injEq, Prod.mk.injEq] at h4
        obtain ⟨rfl, rfl, rfl⟩ := h4
        have EL := Aside0.mk eL
        clear h3 eL
        go_wp2
        refine bodyPost_ret (results_ctt rfl _ _ (B + 1 + 1) 24 #[.slice none 0 0] (0, 0) _ rfl (blk_put (cs := #[.slice none 0 0]) HK2.out 0 _ rfl) Tryd.underlying24 rfl (by kernel_rfl)) rfl ?_
        exact ⟨_, by rw [EL.out]; rfl, Kd.R_nil _ _ _ _ _, F.out _ _ HB12.out⟩
    · have z0 : (e2 != 0) = true := by simp [h2]
      have h3 := HH2.out
      rw [if_neg h2] at h3
      simp only [Option.some.injEq, Prod.mk.injEq] at h3
      obtain ⟨rfl, rfl, rfl⟩ := h3
      clear h2
      obtain ⟨k0, k1, k2⟩ := K.out _ HB8.out
      have HK2 := Aside0.mk k2
      have c4 : w8.cell? ⟨B + 1 + 1, 0, none⟩ = some (.slice none 0 0) := (blk_cell k2 0).trans rfl
      have f4 := blk_frozen k2 0
      clear k0 k1 k2
      go_wp2
      refine bodyPost_ret (results_ctt rfl _ _ (B + 1 + 1) 24 #[.slice none 0 0] (0, 0) _ rfl (blk_put (cs := #[.slice none 0 0]) HK2.out 0 _ rfl) Tryd.underlying24 rfl (by kernel_rfl)) rfl ?_
      exact ⟨_, rfl, Kd.R_nil _ _ _ _ _, F.out _ _ HB8.out⟩
  · have z0 : (e1 != 0) = true := by simp [h1]
    have h2 := HH.out
    rw [if_neg h1] at h2
    simp only [Option.some.injEq, Prod.mk.injEq] at h2
    obtain ⟨rfl, rfl, rfl⟩ := h2
    clear h1
    obtain ⟨k0, k1, k2⟩ := K.out _ HB7.out
    have HK2 := Aside0.mk k2
    have c4 : w7.cell? ⟨B + 1 + 1, 0, none⟩ = some (.slice none 0 0) := (blk_cell k2 0).trans rfl
    have f4 := blk_frozen k2 0
    clear k0 k1 k2
    go_wp2
    refine bodyPost_ret (results_ctt rfl _ _ (B + 1 + 1) 24 #[.slice none 0 0] (0, 0) _ rfl (blk_put (cs := #[.slice none 0 0]) HK2.out 0 _ rfl) Tryd.underlying24 rfl (by kernel_rfl)) rfl ?_
    exact ⟨_, rfl, Kd.R_nil _ _ _ _ _, F.out _ _ HB7.out⟩
end Go.Proofs.YtpldcikmlpegpaaDoor.PB
end
section
namespace Go.Proofs.YtpldcikmlpegpaaDoor.PB
open Go.RowKit Go.Proofs.YtpldcikmlpegpaaDoorW.PrintWords Go.Proofs.YtpldcikmlpegpaaDoorW.PrintLast Go.Proofs.YtpldcikmlpegpaaDoorW.PrintMore
attribute [local go_sem] max2_int min2_int max_two min_two max_three min_three max_four min_four   -- for this text's walks alone
set_option linter.unusedVariables false
set_option linter.unusedSimpArgs false
def pack_both.f (k : Nat) (l0_0 : List (S48)) (l1_0 : List (S48)) : Option (Int) := (pack_Check.f k l0_0).bind fun t126 => (if t126 = 0 then ((pack_Check.f k l1_0).bind fun t127 => (some t127)) else (some t126))
set_option maxHeartbeats 8000000 in
set_option maxRecDepth 100000 in
theorem pack_both.calls (k : Nat) (A0_0 : Option Addr) (c0_0 : Nat) (l0_0 : List (S48)) (A1_0 : Option Addr) (c1_0 : Nat) (l1_0 : List (S48)) (r : Int) (w : World) (hr0_0 : Kd.C k48 w A0_0 l0_0.length l0_0) (hc0_0 : l0_0.length ≤ c0_0) (hr1_0 : Kd.C k48 w A1_0 l1_0.length l1_0) (hc1_0 : l1_0.length ≤ c1_0) (h : pack_both.f k l0_0 l1_0 = some r) :
    Calls Tryd.prog 66 #[.agg #[.slice A0_0 l0_0.length c0_0], .agg #[.slice A1_0 l1_0.length c1_0]] w fun e w' => e = .returned (.int .i64 r) ∧ Below w.heap.size w w' := by
  have hu24 := Tryd.underlying24
  have HR0_0 := Aside0.mk hr0_0
  have HC0_0 := Aside0.mk hc0_0
  clear hr0_0 hc0_0
  have HR1_0 := Aside0.mk hr1_0
  have HC1_0 := Aside0.mk hc1_0
  clear hr1_0 hc1_0
  have HB := Aside0.mk (Below.refl w.heap.size w)
  have H : ((pack_Check.f k l0_0).bind fun t126 => (if t126 = 0 then ((pack_Check.f k l1_0).bind fun t127 => (some t127)) else (some t126))) = some r := h
  clear h
  replace H := Option.bind_eq_some_iff.mp H
  obtain ⟨t126, A30, H⟩ := H
  replace H : (if t126 = 0 then ((pack_Check.f k l1_0).bind fun t127 => (some t127)) else (some t126)) = some r := H
  have A3 := Aside0.mk A30
  clear A30
  by_cases c4 : t126 = 0
  · rw [if_pos c4] at H
    have c4b0 : (t126 == 0) = true := beq_iff_eq.mpr c4
    have c4b1 : (t126 != 0) = false := bne_eq_false_iff_eq.mpr c4
    clear c4
    replace H := Option.bind_eq_some_iff.mp H
    obtain ⟨t127, A50, H⟩ := H
    replace H : (some t127) = some r := H
    have A5 := Aside0.mk A50
    clear A50
    obtain rfl := Option.some.inj H
    go_enter Tryd.func66, Tryd.ntmps66
    go_wp2_with (first | ((with_reducible refine gate_dst (N := 2) rfl ?_); refine box_event ?hg (N := 2) ?hd (cs := #[.slice A0_0 l0_0.length c0_0]) (t := 24) ?hr ?_; (case hd => rfl); (case hg => rfl); (case hr => first | (go_simp; done) | (go_simp; rfl)); intro gb124 hg w6 hbox hb; have n0_ := Aside0.mk (below_step (by repeat (first | (with_reducible first | exact HB.out | apply below_alloc | apply pw_below_drewN | apply below_drew1) | exact HB.out)) hb); have n1_ := Aside0.mk (hbox); have n2_ := Aside0.mk ((by rw [hg]; exact (below_size (by repeat (first | (with_reducible first | exact HB.out | apply below_alloc | apply pw_below_drewN | apply below_drew1) | exact HB.out))) : w.heap.size ≤ gb124)); have n3_ := Aside0.mk ((by rw [hg]; exact (below_size (by repeat (first | (with_reducible first | exact HB.out | apply below_alloc | apply pw_below_drewN | apply below_drew1) | exact HB.out))) : w.heap.size ≤ gb124)); clear HB; have HB := n0_; have BK124 := n1_; have GW124 := n2_; have GE124 := n3_; clear n0_ n1_ n2_ n3_; clear hb hbox hg) | ((with_reducible refine gate_dst (N := 3) rfl ?_); refine box_event ?hg (N := 3) ?hd (cs := #[.slice A1_0 l1_0.length c1_0]) (t := 24) ?hr ?_; (case hd => rfl); (case hg => rfl); (case hr => first | (go_simp; done) | (go_simp; rfl)); intro gb125 hg w7 hbox hb; have n0_ := Aside0.mk (blk_below (g := gb124) (o := .cells #[.slice A0_0 l0_0.length c0_0] 24 (0, 0)) (by (with_reducible repeat (first | refine blk_drewN ?_ _ | refine blk_drew ?_ | refine blk_alloc ?_ _)); exact BK124.out) hb); have n1_ := Aside0.mk (below_step (by repeat (first | (with_reducible first | exact HB.out | apply below_alloc | apply pw_below_drewN | apply below_drew1 | refine below_set ?_ GE124.out) | exact HB.out)) hb); have n2_ := Aside0.mk (hbox); have n3_ := Aside0.mk ((by rw [hg]; exact (below_size (by repeat (first | (with_reducible first | exact HB.out | apply below_alloc | apply pw_below_drewN | apply below_drew1 | refine below_set ?_ GE124.out) | exact HB.out))) : w.heap.size ≤ gb125)); have n4_ := Aside0.mk ((by rw [hg]; exact (below_size (by repeat (first | (with_reducible first | exact HB.out | apply below_alloc | apply pw_below_drewN | apply below_drew1 | refine below_set ?_ GE124.out) | exact HB.out))) : w.heap.size ≤ gb125)); have n5_ := Aside0.mk ((by rw [hg]; exact Nat.ne_of_lt (blk_lt (g := gb124) (o := .cells #[.slice A0_0 l0_0.length c0_0] 24 (0, 0)) (by (with_reducible repeat (first | refine blk_drewN ?_ _ | refine blk_drew ?_ | refine blk_alloc ?_ _)); exact BK124.out)) : gb124 ≠ gb125)); have n6_ := Aside0.mk ((by rw [hg]; exact Nat.ne_of_gt (blk_lt (g := gb124) (o := .cells #[.slice A0_0 l0_0.length c0_0] 24 (0, 0)) (by (with_reducible repeat (first | refine blk_drewN ?_ _ | refine blk_drew ?_ | refine blk_alloc ?_ _)); exact BK124.out)) : gb125 ≠ gb124)); clear BK124; clear HB; have BK124 := n0_; have HB := n1_; have BK125 := n2_; have GW125 := n3_; have GE125 := n4_; have NB124_125 := n5_; have NB125_124 := n6_; clear n0_ n1_ n2_ n3_ n4_ n5_ n6_; clear hb hbox hg; have hnb8 := NB124_125.out; have hnc8 := NB125_124.out; have hcz9_0 : w7.cell? ⟨gb124, 0, none⟩ = some (.slice A0_0 l0_0.length c0_0) := (blk_cell BK124.out 0).trans rfl; have hfz9_0 := blk_frozen BK124.out 0) | ((with_reducible refine gate_callee (f := 25) rfl ?_); refine goesL_ (some 7) rfl rfl Tryd.func25 (by kernel_rfl) rfl #[.agg #[.slice A0_0 l0_0.length c0_0]] rfl (by (try simp only [List.map_toArray, List.map_cons, List.map_nil]); first | done | rfl | (simp only [List.length_drop, List.length_take]; rfl)) ?_; (with_reducible refine (pack_Check.calls k _ _ l0_0 t126 _ ?side1 ?side2 A3.out).mono ?_); (case side1 => repeat (first | exact (Kd.C_below HR0_0.out HB.out) | (with_reducible refine Kd.C_alloc ?_ _) | (with_reducible refine Kd.C_drewN ?_ _) | (with_reducible refine Kd.C_drew ?_))); (case side2 => exact HC0_0.out); rintro e w10 ⟨rfl, hb⟩; refine ⟨_, rfl, ?_⟩; have n0_ := Aside0.mk (blk_below (g := gb124) (o := .cells #[.slice A0_0 l0_0.length c0_0] 24 (0, 0)) (by (with_reducible repeat (first | refine blk_drewN ?_ _ | refine blk_drew ?_ | refine blk_alloc ?_ _)); exact BK124.out) hb); have n1_ := Aside0.mk (blk_below (g := gb125) (o := .cells #[.slice A1_0 l1_0.length c1_0] 24 (0, 0)) (by (with_reducible repeat (first | refine blk_drewN ?_ _ | refine blk_drew ?_ | refine blk_alloc ?_ _)); exact BK125.out) hb); have n2_ := Aside0.mk (below_step (by repeat (first | (with_reducible first | exact HB.out | apply below_alloc | apply pw_below_drewN | apply below_drew1 | refine below_set ?_ GE124.out | refine below_set ?_ GE125.out) | exact HB.out)) hb); clear BK124; clear BK125; clear HB; have BK124 := n0_; have BK125 := n1_; have HB := n2_; clear n0_ n1_ n2_; (try clear hb); (try clear hb2); (try clear hk); (try clear hi); have hcz11_0 : w10.cell? ⟨gb125, 0, none⟩ = some (.slice A1_0 l1_0.length c1_0) := (blk_cell BK125.out 0).trans rfl; have hfz11_0 := blk_frozen BK125.out 0) | ((with_reducible refine gate_callee (f := 25) rfl ?_); refine goesL_ (some 12) rfl rfl Tryd.func25 (by kernel_rfl) rfl #[.agg #[.slice A1_0 l1_0.length c1_0]] rfl (by (try simp only [List.map_toArray, List.map_cons, List.map_nil]); first | done | rfl | (simp only [List.length_drop, List.length_take]; rfl)) ?_; (with_reducible refine (pack_Check.calls k _ _ l1_0 t127 _ ?side1 ?side2 A5.out).mono ?_); (case side1 => repeat (first | exact (Kd.C_below HR1_0.out HB.out) | (with_reducible refine Kd.C_alloc ?_ _) | (with_reducible refine Kd.C_drewN ?_ _) | (with_reducible refine Kd.C_drew ?_))); (case side2 => exact HC1_0.out); rintro e w12 ⟨rfl, hb⟩; refine ⟨_, rfl, ?_⟩; have n0_ := Aside0.mk (blk_below (g := gb124) (o := .cells #[.slice A0_0 l0_0.length c0_0] 24 (0, 0)) (by (with_reducible repeat (first | refine blk_drewN ?_ _ | refine blk_drew ?_ | refine blk_alloc ?_ _)); exact BK124.out) hb); have n1_ := Aside0.mk (blk_below (g := gb125) (o := .cells #[.slice A1_0 l1_0.length c1_0] 24 (0, 0)) (by (with_reducible repeat (first | refine blk_drewN ?_ _ | refine blk_drew ?_ | refine blk_alloc ?_ _)); exact BK125.out) hb); have n2_ := Aside0.mk (below_step (by repeat (first | (with_reducible first | exact HB.out | apply below_alloc | apply pw_below_drewN | apply below_drew1 | refine below_set ?_ GE124.out | refine below_set ?_ GE125.out) | exact HB.out)) hb); clear BK124; clear BK125; clear HB; have BK124 := n0_; have BK125 := n1_; have HB := n2_; clear n0_ n1_ n2_; (try clear hb); (try clear hb2); (try clear hk); (try clear hi)))
    go_ret
    exact ⟨by first | rfl | (simp [errW_none, errW_some] <;> rfl) | (simp [*, errW_none, errW_some] <;> rfl), by repeat (first | (with_reducible first | exact HB.out | apply below_alloc | apply pw_below_drewN | apply below_drew1 | refine below_set ?_ GE124.out | refine below_set ?_ GE125.out) | exact HB.out)⟩
  · rw [if_neg c4] at H
    have c4b0 : (t126 == 0) = false := beq_eq_false_iff_ne.mpr c4
    have c4b1 : (t126 != 0) = true := bne_iff_ne.mpr c4
    obtain rfl := Option.some.inj H
    go_enter Tryd.func66, Tryd.ntmps66
    go_wp2_with (first | ((with_reducible refine gate_dst (N := 2) rfl ?_); refine box_event ?hg (N := 2) ?hd (cs := #[.slice A0_0 l0_0.length c0_0]) (t := 24) ?hr ?_; (case hd => rfl); (case hg => rfl); (case hr => first | (go_simp; done) | (go_simp; rfl)); intro gb124 hg w13 hbox hb; have n0_ := Aside0.mk (below_step (by repeat (first | (with_reducible first | exact HB.out | apply below_alloc | apply pw_below_drewN | apply below_drew1) | exact HB.out)) hb); have n1_ := Aside0.mk (hbox); have n2_ := Aside0.mk ((by rw [hg]; exact (below_size (by repeat (first | (with_reducible first | exact HB.out | apply below_alloc | apply pw_below_drewN | apply below_drew1) | exact HB.out))) : w.heap.size ≤ gb124)); have n3_ := Aside0.mk ((by rw [hg]; exact (below_size (by repeat (first | (with_reducible first | exact HB.out | apply below_alloc | apply pw_below_drewN | apply below_drew1) | exact HB.out))) : w.heap.size ≤ gb124)); clear HB; have HB := n0_; have BK124 := n1_; have GW124 := n2_; have GE124 := n3_; clear n0_ n1_ n2_ n3_; clear hb hbox hg) | ((with_reducible refine gate_dst (N := 3) rfl ?_); refine box_event ?hg (N := 3) ?hd (cs := #[.slice A1_0 l1_0.length c1_0]) (t := 24) ?hr ?_; (case hd => rfl); (case hg => rfl); (case hr => first | (go_simp; done) | (go_simp; rfl)); intro gb125 hg w14 hbox hb; have n0_ := Aside0.mk (blk_below (g := gb124) (o := .cells #[.slice A0_0 l0_0.length c0_0] 24 (0, 0)) (by (with_reducible repeat (first | refine blk_drewN ?_ _ | refine blk_drew ?_ | refine blk_alloc ?_ _)); exact BK124.out) hb); have n1_ := Aside0.mk (below_step (by repeat (first | (with_reducible first | exact HB.out | apply below_alloc | apply pw_below_drewN | apply below_drew1 | refine below_set ?_ GE124.out) | exact HB.out)) hb); have n2_ := Aside0.mk (hbox); have n3_ := Aside0.mk ((by rw [hg]; exact (below_size (by repeat (first | (with_reducible first | exact HB.out | apply below_alloc | apply pw_below_drewN | apply below_drew1 | refine below_set ?_ GE124.out) | exact HB.out))) : w.heap.size ≤ gb125)); have n4_ := Aside0.mk ((by rw [hg]; exact (below_size (by repeat (first | (with_reducible first | exact HB.out | apply below_alloc | apply pw_below_drewN | apply below_drew1 | refine below_set ?_ GE124.out) | exact HB.out))) : w.heap.size ≤ gb125)); have n5_ := Aside0.mk ((by rw [hg]; exact Nat.ne_of_lt (blk_lt (g := gb124) (o := .cells #[.slice A0_0 l0_0.length c0_0] 24 (0, 0)) (by (with_reducible repeat (first | refine blk_drewN ?_ _ | refine blk_drew ?_ | refine blk_alloc ?_ _)); exact BK124.out)) : gb124 ≠ gb125)); have n6_ := Aside0.mk ((by rw [hg]; exact Nat.ne_of_gt (blk_lt (g := gb124) (o := .cells #[.slice A0_0 l0_0.length c0_0] 24 (0, 0)) (by (with_reducible repeat (first | refine blk_drewN ?_ _ | refine blk_drew ?_ | refine blk_alloc ?_ _)); exact BK124.out)) : gb125 ≠ gb124)); clear BK124; clear HB; have BK124 := n0_; have HB := n1_; have BK125 := n2_; have GW125 := n3_; have GE125 := n4_; have NB124_125 := n5_; have NB125_124 := n6_; clear n0_ n1_ n2_ n3_ n4_ n5_ n6_; clear hb hbox hg; have hnb15 := NB124_125.out; have hnc15 := NB125_124.out; have hcz16_0 : w14.cell? ⟨gb124, 0, none⟩ = some (.slice A0_0 l0_0.length c0_0) := (blk_cell BK124.out 0).trans rfl; have hfz16_0 := blk_frozen BK124.out 0) | ((with_reducible refine gate_callee (f := 25) rfl ?_); refine goesL_ (some 7) rfl rfl Tryd.func25 (by kernel_rfl) rfl #[.agg #[.slice A0_0 l0_0.length c0_0]] rfl (by (try simp only [List.map_toArray, List.map_cons, List.map_nil]); first | done | rfl | (simp only [List.length_drop, List.length_take]; rfl)) ?_; (with_reducible refine (pack_Check.calls k _ _ l0_0 t126 _ ?side1 ?side2 A3.out).mono ?_); (case side1 => repeat (first | exact (Kd.C_below HR0_0.out HB.out) | (with_reducible refine Kd.C_alloc ?_ _) | (with_reducible refine Kd.C_drewN ?_ _) | (with_reducible refine Kd.C_drew ?_))); (case side2 => exact HC0_0.out); rintro e w17 ⟨rfl, hb⟩; refine ⟨_, rfl, ?_⟩; have n0_ := Aside0.mk (blk_below (g := gb124) (o := .cells #[.slice A0_0 l0_0.length c0_0] 24 (0, 0)) (by (with_reducible repeat (first | refine blk_drewN ?_ _ | refine blk_drew ?_ | refine blk_alloc ?_ _)); exact BK124.out) hb); have n1_ := Aside0.mk (blk_below (g := gb125) (o := .cells #[.slice A1_0 l1_0.length c1_0] 24 (0, 0)) (by (with_reducible repeat (first | refine blk_drewN ?_ _ | refine blk_drew ?_ | refine blk_alloc ?_ _)); exact BK125.out) hb); have n2_ := Aside0.mk (below_step (by repeat (first | (with_reducible first | exact HB.out | apply below_alloc | apply pw_below_drewN | apply below_drew1 | refine below_set ?_ GE124.out | refine below_set ?_ GE125.out) | exact HB.out)) hb); clear BK124; clear BK125; clear HB; have BK124 := n0_; have BK125 := n1_; have HB := n2_; clear n0_ n1_ n2_; (try clear hb); (try clear hb2); (try clear hk); (try clear hi)))
    go_ret
    exact ⟨by first | rfl | (simp [errW_none, errW_some] <;> rfl) | (simp [*, errW_none, errW_some] <;> rfl), by repeat (first | (with_reducible first | exact HB.out | apply below_alloc | apply pw_below_drewN | apply below_drew1 | refine below_set ?_ GE124.out | refine below_set ?_ GE125.out) | exact HB.out)⟩
end Go.Proofs.YtpldcikmlpegpaaDoor.PB
end
section
namespace Go.Proofs.YtpldcikmlpegpaaDoor.PB
open Go.RowKit Go.Proofs.YtpldcikmlpegpaaDoor.Col Go.Proofs.YtpldcikmlpegpaaDoorW.PrintWords Go.Proofs.YtpldcikmlpegpaaDoorW.PrintLast Go.Proofs.YtpldcikmlpegpaaDoorW.PrintMore
attribute [local go_sem] max2_int min2_int max_two min_two
def driftC (l : List S48) (m : Int) : C := C.times C.vanish m.toNat (C.of l)
def pack_Drift.f (l q : List S48) (m : Int) : Option (List S48 × List S48 × Int) :=
  (pack_both.f 200 l q).bind fun e => if e = 0 then (if 0 ≤ m ∧ m ≤ 65536 then
    ((pack_Check.f 200 (driftC l m).live).bind fun e3 => if e3 = 0 then
      ((pack_Apply.f q 1 (driftC l m).taken 0).bind fun r => if r.2.2 = 0 then some ((driftC l m).live, r.1, 0) else some ([], [], r.2.2))
    else some ([], [], 2)) else some ([], [], 1)) else some ([], [], e)
theorem both_len {k : Nat} {l q : List S48} (h : pack_both.f k l q = some 0) : l.length ≤ 64 := by
  unfold pack_both.f at h
  obtain ⟨e, h1, h2⟩ := Option.bind_eq_some_iff.mp h
  by_cases h0 : e = 0
  · exact check_len (h0 ▸ h1)
  · rw [if_neg h0] at h2
    exact absurd (Option.some.inj h2) h0
theorem results_cct {P : Program} {fn : Func} {p p' u : Tmp} {ty ty' : TypeId} (h : fn.results = #[.cell p ty, .cell p' ty', .tmp u]) (tmps : Array Value) (w : World) (g g' : Nat) (t t' : TypeId) (cs cs' : Array Value) (fr fr' : Nat × Nat) (d d' : TypeDesc)
    (hp : tmps.getD p undef = .pointer (some ⟨g, 0, none⟩)) (hg : w.heap[g]? = some (.cells cs t fr))
    (hu : P.underlying ty = some d) (hd : (match d with | .struct _ | .array _ _ => true | _ => false) = true) (hi : (P.info? ty).map (·.size) = some cs.size)
    (hp' : tmps.getD p' undef = .pointer (some ⟨g', 0, none⟩)) (hg' : w.heap[g']? = some (.cells cs' t' fr'))
    (hu' : P.underlying ty' = some d') (hd' : (match d' with | .struct _ | .array _ _ => true | _ => false) = true) (hi' : (P.info? ty').map (·.size) = some cs'.size) :
    (results fn tmps).run P w = .ok (.tuple #[.agg cs, .agg cs', tmps.getD u undef]) w := by
  have h1 : tmps[p]?.getD undef = .pointer (some ⟨g, 0, none⟩) := by simpa using hp
  have h2 : tmps[p']?.getD undef = .pointer (some ⟨g', 0, none⟩) := by simpa using hp'
  simp [results, h, h1, h2, asAddr, run_loadVar_row w g t ty cs fr d hg hu hd hi, run_loadVar_row w g' t' ty' cs' fr' d' hg' hu' hd' hi']
theorem keep2d {W0 w' : World} {a b : Addr} {u v : Value} (h0 : W0.cell? a = some u) (h1 : W0.cell? b = some v) (hb : Below W0.heap.size W0 w') : w'.cell? a = some u ∧ w'.cell? b = some v ∧ Below W0.heap.size W0 w' := ⟨pw_cell_below hb h0, pw_cell_below hb h1, hb⟩
theorem times_inv_y (c : C) (j : Nat) : c.top ≤ c.n → (C.times C.vanish j c).n = c.n ∧ (C.times C.vanish j c).top ≤ c.n := by
  induction j generalizing c with
  | zero => intro h; exact ⟨rfl, h⟩
  | succ j ih =>
    intro h
    simp only [C.times]
    split
    · exact ⟨rfl, h⟩
    · rename_i hne
      have h1 := vanish_roundC.n c
      have h2 := vanish_roundC.top c (by omega)
      have := ih c.vanish (by omega)
      rw [h1] at this
      exact this
set_option maxRecDepth 100000 in
set_option maxHeartbeats 4000000 in
theorem pack_Drift.calls (A0 : Option Addr) (c0 : Nat) (l0 : List (S48)) (A1 : Option Addr) (c1 : Nat) (l1 : List (S48)) (a2 : Int) (r1 r2 : List (S48)) (r3 : Int) (w : World)
    (hr0 : Kd.C k48 w A0 l0.length l0) (hc0 : l0.length ≤ c0) (hr1 : Kd.C k48 w A1 l1.length l1) (hc1 : l1.length ≤ c1) (h : pack_Drift.f l0 l1 a2 = some (r1, r2, r3)) :
    Calls Tryd.prog 31 #[.agg #[.slice A0 l0.length c0], .agg #[.slice A1 l1.length c1], .int .i64 a2] w fun e w' => ∃ v0_ v1_ : Value, e = .returned (.tuple #[.agg #[v0_], .agg #[v1_], .int .i64 r3]) ∧
      Kd.R k48 48 w' w.heap.size (fun _ => True) v0_ r1 ∧ Kd.R k48 48 w' w.heap.size (fun _ => True) v1_ r2 ∧ Below w.heap.size w w' := by
  have hu24 := Tryd.underlying24
  have hu26 := Tryd.underlying26
  have HR := Aside0.mk hr0
  have HC := Aside0.mk hc0
  have HRq := Aside0.mk hr1
  have HCq := Aside0.mk hc1
  clear hr0 hc0 hr1 hc1
  unfold pack_Drift.f at h
  replace h := Option.bind_eq_some_iff.mp h
  obtain ⟨e1, E1, h⟩ := h
  have HE1 := Aside0.mk E1
  have HH := Aside0.mk h
  clear E1 h
  go_enter Tryd.func31, Tryd.ntmps31
  go_upto_region 1 with (fail)
  obtain ⟨B, hB⟩ : ∃ B, w.heap.size = B := ⟨_, rfl⟩
  obtain ⟨V1, hV1⟩ : ∃ W1, w.alloc (.cells #[.slice A0 l0.length c0] 24 (0, 0)) = W1 := ⟨_, rfl⟩
  obtain ⟨V2, hV2⟩ : ∃ W1, V1.alloc (.cells #[.slice A1 l1.length c1] 24 (0, 0)) = W1 := ⟨_, rfl⟩
  obtain ⟨V3, hV3⟩ : ∃ W1, V2.alloc (.cells #[.slice none 0 0] 24 (0, 0)) = W1 := ⟨_, rfl⟩
  obtain ⟨W1, hW1⟩ : ∃ W1, V3.alloc (.cells #[.slice none 0 0] 24 (0, 0)) = W1 := ⟨_, rfl⟩
  have s1 : V1.heap.size = B + 1 := by rw [← hV1, ← hB]; simp
  have s2 : V2.heap.size = B + 2 := by rw [← hV2]; simp [s1]
  have s3 : V3.heap.size = B + 3 := by rw [← hV3]; simp [s2]
  have s4 : W1.heap.size = B + 4 := by rw [← hW1]; simp [s3]
  have b1 : Below B w V1 := by rw [← hV1, ← hB]; exact (Below.refl _ _).alloc (Nat.le_refl _) _
  have b2 : Below B w V2 := by rw [← hV2]; exact b1.alloc (by omega) _
  have b3 : Below B w V3 := by rw [← hV3]; exact b2.alloc (by omega) _
  have b4 : Below B w W1 := by rw [← hW1]; exact b3.alloc (by omega) _
  have p0 : W1.heap[B]? = some (.cells #[.slice A0 l0.length c0] 24 (0, 0)) := by rw [← hW1]; refine blk_alloc ?_ _; rw [← hV3]; refine blk_alloc ?_ _; rw [← hV2]; refine blk_alloc ?_ _; rw [← hV1, ← hB]; exact blk_new _ _
  have p1 : W1.heap[B + 1]? = some (.cells #[.slice A1 l1.length c1] 24 (0, 0)) := by rw [← hW1]; refine blk_alloc ?_ _; rw [← hV3]; refine blk_alloc ?_ _; rw [← hV2, ← s1]; exact blk_new _ _
  have p2 : W1.heap[B + 1 + 1]? = some (.cells #[.slice none 0 0] 24 (0, 0)) := by rw [← hW1]; refine blk_alloc ?_ _; rw [← hV3, show B + 1 + 1 = V2.heap.size from s2.symm]; exact blk_new _ _
  have p3 : W1.heap[B + 1 + 1 + 1]? = some (.cells #[.slice none 0 0] 24 (0, 0)) := by rw [← hW1, show B + 1 + 1 + 1 = V3.heap.size from s3.symm]; exact blk_new _ _
  rw [hV1, hV2, hV3, hW1, hB]
  have HR0 : Aside0 (Kd.C k48 W1 A0 l0.length l0) := ⟨Kd.C_below HR.out (by rw [hB]; exact b4)⟩
  have HR1 : Aside0 (Kd.C k48 W1 A1 l1.length l1) := ⟨Kd.C_below HRq.out (by rw [hB]; exact b4)⟩
  have K : Aside0 (∀ wX : World, Below W1.heap.size W1 wX → wX.heap[B]? = some (.cells #[.slice A0 l0.length c0] 24 (0, 0)) ∧ wX.heap[B + 1]? = some (.cells #[.slice A1 l1.length c1] 24 (0, 0)) ∧ wX.heap[B + 1 + 1]? = some (.cells #[.slice none 0 0] 24 (0, 0)) ∧ wX.heap[B + 1 + 1 + 1]? = some (.cells #[.slice none 0 0] 24 (0, 0)) ∧ Kd.C k48 wX A0 l0.length l0 ∧ Kd.C k48 wX A1 l1.length l1) :=
    ⟨fun wX hb => ⟨blk_below p0 hb, blk_below p1 hb, blk_below p2 hb, blk_below p3 hb, Kd.C_below HR0.out hb, Kd.C_below HR1.out hb⟩⟩
  have HS3 := Aside0.mk s4
  have HBq := Aside0.mk hB
  have HB4 := Aside0.mk b4
  have F : Aside0 (∀ (wX : World) (v v' : Value), Below W1.heap.size W1 wX → Below w.heap.size w ((wX.setCell ⟨B + 1 + 1, 0, none⟩ v).setCell ⟨B + 1 + 1 + 1, 0, none⟩ v')) :=
    ⟨fun wX v v' hb => by rw [HBq.out]; exact ((HB4.out.trans (hb.mono (by rw [HS3.out]; omega))).setCell (p := ⟨B + 1 + 1, 0, none⟩) (by show B ≤ B + 1 + 1; omega) v).setCell (p := ⟨B + 1 + 1 + 1, 0, none⟩) (by show B ≤ B + 1 + 1 + 1; omega) v'⟩
  have RN : Aside0 (∀ (wX : World) (v v' : Value) (xs xs' : List S48), Below W1.heap.size W1 wX → ((Kd.R k48 48 wX W1.heap.size (fun _ => True) v xs) → Kd.R k48 48 ((wX.setCell ⟨B + 1 + 1, 0, none⟩ v).setCell ⟨B + 1 + 1 + 1, 0, none⟩ v') w.heap.size (fun _ => True) v xs) ∧ ((Kd.R k48 48 wX W1.heap.size (fun _ => True) v' xs') → Kd.R k48 48 ((wX.setCell ⟨B + 1 + 1, 0, none⟩ v).setCell ⟨B + 1 + 1 + 1, 0, none⟩ v') w.heap.size (fun _ => True) v' xs')) :=
    ⟨fun wX v v' xs xs' hb => by
      have key : ∀ {u : Value} {ys : List S48}, Kd.R k48 48 wX W1.heap.size (fun _ => True) u ys → Kd.R k48 48 ((wX.setCell ⟨B + 1 + 1, 0, none⟩ v).setCell ⟨B + 1 + 1 + 1, 0, none⟩ v') w.heap.size (fun _ => True) u ys := fun h => by
        have h1 := Kd.R_mono (Kd.R_bound h) (ok' := fun k => W1.heap.size ≤ k) (fun _ h => h.2.1)
        have h2 := Kd.R_far (p := ⟨B + 1 + 1, 0, none⟩) h1 (fun k hk => by dsimp only; have := HS3.out; omega) v
        have h3 := Kd.R_far (p := ⟨B + 1 + 1 + 1, 0, none⟩) h2 (fun k hk => by dsimp only; have := HS3.out; omega) v'
        exact Kd.R_lower (Kd.R_mono h3 (fun _ _ => trivial)) (by have := HS3.out; have := HBq.out; omega)
      exact ⟨key, key⟩⟩
  have FIN : Aside0 (∀ (wX : World) (v v' : Value), Below W1.heap.size W1 wX → ((wX.setCell ⟨B + 1 + 1, 0, none⟩ v).setCell ⟨B + 1 + 1 + 1, 0, none⟩ v').heap[B + 1 + 1]? = some (.cells #[v] 24 (0, 0)) ∧ ((wX.setCell ⟨B + 1 + 1, 0, none⟩ v).setCell ⟨B + 1 + 1 + 1, 0, none⟩ v').heap[B + 1 + 1 + 1]? = some (.cells #[v'] 24 (0, 0))) :=
    ⟨fun wX v v' hb => by
      obtain ⟨_, _, k2, k3, _, _⟩ := K.out _ hb
      exact ⟨blk_far (blk_put (cs := #[.slice none 0 0]) k2 0 _ rfl) (by dsimp only; omega) _, blk_put (cs := #[.slice none 0 0]) (blk_far k3 (by dsimp only; omega) _) 0 _ rfl⟩⟩
  have CX : Aside0 (∀ wX : World, Below W1.heap.size W1 wX → (wX.cell? ⟨B, 0, none⟩ = some (.slice A0 l0.length c0) ∧ wX.cell? ⟨B + 1, 0, none⟩ = some (.slice A1 l1.length c1)) ∧ (wX.cell? ⟨B + 1 + 1, 0, none⟩ = some (.slice none 0 0) ∧ wX.frozen? ⟨B + 1 + 1, 0, none⟩ = false ∧ wX.cell? ⟨B + 1 + 1 + 1, 0, none⟩ = some (.slice none 0 0) ∧ wX.frozen? ⟨B + 1 + 1 + 1, 0, none⟩ = false)) :=
    ⟨fun wX hb => by
      obtain ⟨k0, k1, k2, k3, _, _⟩ := K.out _ hb
      exact ⟨⟨(blk_cell k0 0).trans rfl, (blk_cell k1 0).trans rfl⟩, (blk_cell k2 0).trans rfl, blk_frozen k2 0, (blk_cell k3 0).trans rfl, blk_frozen k3 0⟩⟩
  obtain ⟨q0, q1⟩ := (CX.out _ (Below.refl _ _)).1
  clear hV1 hV2 hV3 hW1 s1 s2 s3 s4 b1 b2 b3 b4 p0 p1 p2 p3 hB
  go_upto_if 19 with (first | (go_at_call 66; refine (pack_both.calls 200 A0 c0 l0 A1 c1 l1 e1 _ HR0.out HC.out HR1.out HCq.out HE1.out).mono ?_; rintro e w7 ⟨rfl, hb⟩; have HB7 := Aside0.mk hb; clear hb q0 q1))
  by_cases h1 : e1 = 0
  · have z0 : (e1 != 0) = false := by simp [h1]
    have h2 := HH.out
    rw [if_pos h1] at h2
    have HLN := Aside0.mk (both_len (h1 ▸ HE1.out))
    clear HH h1
    by_cases hm : 0 ≤ a2 ∧ a2 ≤ 65536
    · rw [if_pos hm] at h2
      have HM := Aside0.mk hm
      have HH2 := Aside0.mk h2
      have hpf : Aside0 (pack_from.f a2 0 65536 = some true) := ⟨by unfold pack_from.f; rw [if_pos hm.1]; simp [hm.2]⟩
      clear hm h2
      go_upto_region 6 with (first | (go_at_call 67; refine (pack_from.calls a2 0 65536 true _ hpf.out).mono ?_; rintro e w8 ⟨rfl, ⟨nd, rfl⟩⟩))
      have HB8 := Aside0.mk (pw_below_drewN HB7.out nd)
      generalize w7.drewN nd = w8 at HB8 ⊢
      have q0 := (CX.out _ HB8.out).1.1
      go_upto_region 7 with (first | (go_at_call 59; refine (of_calls A0 c0 l0 _ (K.out _ HB8.out).2.2.2.2.1 HLN.out).mono ?_; rintro e w9 ⟨g, rfl, hI, hg, hb⟩; have HI9 := Aside0.mk hI; have HG := Aside0.mk (Nat.le_trans HB8.out.size hg); have HB9 := Aside0.mk (below_step HB8.out hb); clear hI hg hb q0 z0))
      have HTI := Aside0.mk (times_inv_y (C.of l0) a2.toNat (show 1 ≤ l0.length + 1 by omega))
      obtain ⟨d, hd⟩ : ∃ d, driftC l0 a2 = d := ⟨_, rfl⟩
      have HD : Aside0 (C.times C.vanish a2.toNat (C.of l0) = d) := ⟨hd⟩
      have HDN : Aside0 (d.n ≤ 65 ∧ d.top ≤ d.n) := ⟨by have h1 := HTI.out.1; have h2 := HTI.out.2; have h3 := HLN.out; have h4 : (C.of l0).n = l0.length + 1 := rfl; rw [HD.out] at h1 h2; omega⟩
      have h3 := HH2.out
      rw [hd] at h3
      replace h3 := Option.bind_eq_some_iff.mp h3
      obtain ⟨e3, E3, h3⟩ := h3
      have HE3 := Aside0.mk E3
      have HH3 := Aside0.mk h3
      clear E3 h3 HH2 hd
      go_upto_region 8 with (first | (go_at_call 73; refine (times_vanish _ g (C.of l0) a2 HI9.out (by have := HLN.out; show l0.length + 1 ≤ 65; omega) (by show 1 ≤ l0.length + 1; omega) (by have := HM.out; omega)).mono ?_; rintro e w10 ⟨rfl, hI, hK⟩; have HI10 : Aside0 (Is w10 g d) := ⟨HD.out ▸ hI⟩; have HB10 := Aside0.mk (hK.below HB9.out HG.out HB9.out.size); clear hI hK))
      go_upto_if 41 with (first | (go_at_call 61; refine (pack_calls 200 e3 _ g d HI10.out HDN.out.1 HDN.out.2 HE3.out).mono ?_; rintro e w11 ⟨v, rfl, hR, hb⟩; obtain ⟨A3, c3, rfl⟩ := Kd.R_slice hR; have HR11 := Aside0.mk (Kd.R_lower hR HB10.out.size); have HI11 := Aside0.mk (HI10.out.below hb); have HB11 := Aside0.mk (below_step HB10.out hb); clear hR hb))
      obtain ⟨q, hq⟩ : ∃ q, w11.heap.size = q := ⟨_, rfl⟩
      obtain ⟨W12, hW12⟩ : ∃ W12, w11.alloc (.cells #[.slice A3 (limitL e3 d.live).length c3] 24 (0, 0)) = W12 := ⟨_, rfl⟩
      rw [hW12, hq]
      have HB12 : Aside0 (Below W1.heap.size W1 W12) := ⟨by rw [← hW12]; exact HB11.out.alloc HB11.out.size _⟩
      have HQ : Aside0 (W12.heap[q]? = some (.cells #[.slice A3 (limitL e3 d.live).length c3] 24 (0, 0))) := ⟨by rw [← hW12, ← hq]; exact blk_new _ _⟩
      have HR12 : Aside0 (Kd.R k48 48 W12 W1.heap.size (fun _ => True) (.slice A3 (limitL e3 d.live).length c3) (limitL e3 d.live)) := ⟨by rw [← hW12]; exact Kd.R_alloc HR11.out _⟩
      have HI12 : Aside0 (Is W12 g d) := ⟨by rw [← hW12]; exact HI11.out.alloc _⟩
      have HNQ : Aside0 (B + 4 ≤ q) := ⟨by have := HB11.out.size; have := HS3.out; omega⟩
      clear hW12 hq HB11 HR11 HI11
      by_cases h3 : e3 = 0
      · have eL : limitE e3 = 0 := if_pos h3
        have z0 : (limitE e3 != 0) = false := by simp [eL]
        have h4 := HH3.out
        rw [if_pos h3] at h4
        replace h4 := Option.bind_eq_some_iff.mp h4
        obtain ⟨⟨s1, s2, s3⟩, E4, h4⟩ := h4
        have HE4 := Aside0.mk E4
        have HH4 := Aside0.mk h4
        have HLL : Aside0 (limitL e3 d.live = d.live) := ⟨if_pos h3⟩
        have EL := Aside0.mk eL
        clear h3 eL E4 h4 HH3
        go_upto_region 11 with (fail)
        have c1' := (CX.out _ HB12.out).1.2
        have ct := HI12.out.taken
        have HZZ := Aside0.mk z0
        clear z0
        go_region_held3 (fun w' => w'.cell? ⟨B + 1, 0, none⟩ = some (.slice A1 l1.length c1) ∧ w'.cell? ⟨g, 198, none⟩ = some (.int .i64 d.taken) ∧ Below W12.heap.size W12 w')
          ((go_split_ands; refine keep2d c1' ct ?_; first | assumption | exact (Below.refl _ _).drew | exact below_step (by assumption) (by assumption) | exact below_alloc (by assumption) _ | exact below_alloc (below_step ((Below.refl _ _).drew) (by assumption)) _ | exact below_set (by assumption) (Nat.le_refl _) | exact below_set (by assumption) (below_size (by assumption))))
          (first | (go_at_call 21; refine (pack_Apply.calls A1 c1 l1 1 d.taken 0 s1 s2 s3 _ (K.out _ (below_step HB12.out ((Below.refl _ _).drew))).2.2.2.2.2 HCq.out HE4.out).mono ?_; rintro e w13 ⟨v4, rfl, hR4, hb4⟩; obtain ⟨A4, c4, rfl⟩ := Kd.R_slice hR4) | (go_at_call 21; refine (pack_Apply.calls A1 c1 l1 1 d.taken 0 s1 s2 s3 _ (K.out _ (below_step HB12.out (((Below.refl _ _).alloc (Nat.le_refl _) _).drew))).2.2.2.2.2 HCq.out HE4.out).mono ?_; rintro e w13 ⟨v4, rfl, hR4, hb4⟩; obtain ⟨A4, c4, rfl⟩ := Kd.R_slice hR4; have P4 := blk_below (blk_drew (blk_new W12 (.cells #[.slice none 0 0] 24 (0, 0)))) hb4; have hx4 : w13.cell? ⟨W12.heap.size, 0, none⟩ = some (.slice none 0 0) := (blk_cell P4 0).trans rfl; have hf4 := blk_frozen P4 0))
        have H14 : Aside0 (Below W12.heap.size W12 (w13.alloc (.cells #[.slice A4 s1.length c4] 24 (0, 0))) ∧ (w13.alloc (.cells #[.slice A4 s1.length c4] 24 (0, 0))).heap[w13.heap.size]? = some (.cells #[.slice A4 s1.length c4] 24 (0, 0)) ∧ Kd.R k48 48 (w13.alloc (.cells #[.slice A4 s1.length c4] 24 (0, 0))) W12.heap.size (fun _ => True) (.slice A4 s1.length c4) s1 ∧ W12.heap.size ≤ w13.heap.size) :=
          ⟨by
            have h1 : Below W12.heap.size W12 w13 := below_step ((Below.refl _ _).drew) hb4
            exact ⟨h1.alloc h1.size _, blk_new _ _, Kd.R_alloc hR4 _, h1.size⟩⟩
        clear hb4 hR4
        generalize w13.alloc (.cells #[.slice A4 s1.length c4] 24 (0, 0)) = W14 at H14 ⊢
        generalize w13.heap.size = q4 at H14 ⊢
        rotate_left 1
        have H14 : Aside0 (Below W12.heap.size W12 (w13.setCell ⟨W12.heap.size, 0, none⟩ (.slice A4 s1.length c4)) ∧ (w13.setCell ⟨W12.heap.size, 0, none⟩ (.slice A4 s1.length c4)).heap[W12.heap.size]? = some (.cells #[.slice A4 s1.length c4] 24 (0, 0)) ∧ Kd.R k48 48 (w13.setCell ⟨W12.heap.size, 0, none⟩ (.slice A4 s1.length c4)) W12.heap.size (fun _ => True) (.slice A4 s1.length c4) s1 ∧ W12.heap.size ≤ W12.heap.size) :=
          ⟨by
            have h1 : Below W12.heap.size W12 w13 := below_step (((Below.refl _ _).alloc (Nat.le_refl _) _).drew) hb4
            exact ⟨h1.setCell (Nat.le_refl _) _, blk_put (cs := #[.slice none 0 0]) P4 0 _ rfl, R_set_low hR4 (by simp) _, Nat.le_refl _⟩⟩
        clear hb4 hR4 P4 hx4 hf4
        generalize w13.setCell ⟨W12.heap.size, 0, none⟩ (.slice A4 s1.length c4) = W14 at H14 ⊢
        obtain ⟨q4, hq4⟩ : ∃ q4, W12.heap.size = q4 := ⟨_, rfl⟩
        rw [hq4]
        replace H14 : Aside0 (Below W12.heap.size W12 W14 ∧ W14.heap[q4]? = some (.cells #[.slice A4 s1.length c4] 24 (0, 0)) ∧ Kd.R k48 48 W14 W12.heap.size (fun _ => True) (.slice A4 s1.length c4) s1 ∧ W12.heap.size ≤ q4) := ⟨by have := H14.out; rw [hq4] at this ⊢; exact this⟩
        clear hq4
        rotate_left 1
        all_goals
          clear c1' ct
          have HB14 := Aside0.mk (below_step HB12.out H14.out.1)
          obtain ⟨c2, f2, c3', f3⟩ := (CX.out _ HB14.out).2
          by_cases h5 : s3 = 0
          · have z1 : (s3 != 0) = false := by simp [h5]
            have h6 := HH4.out
            rw [if_pos h5] at h6
            simp only [Option.some.injEq, Prod.mk.injEq] at h6
            obtain ⟨rfl, rfl, rfl⟩ := h6
            have cq : W14.cell? ⟨q, 0, none⟩ = some (.slice A3 (limitL e3 d.live).length c3) := (blk_cell (blk_below HQ.out H14.out.1) 0).trans rfl
            have cq4 : W14.cell? ⟨q4, 0, none⟩ = some (.slice A4 s1.length c4) := (blk_cell H14.out.2.1 0).trans rfl
            have n1 : q ≠ B + 1 + 1 := by have := HNQ.out; omega
            have n2 : B + 1 + 1 ≠ q := n1.symm
            have n3 : q4 ≠ B + 1 + 1 := by have := H14.out.2.2.2; have := HB12.out.size; have := HS3.out; omega
            have n4 : B + 1 + 1 ≠ q4 := n3.symm
            have n5 : q ≠ B + 1 + 1 + 1 := by have := HNQ.out; omega
            have n6 : B + 1 + 1 + 1 ≠ q := n5.symm
            have n7 : q4 ≠ B + 1 + 1 + 1 := by have := H14.out.2.2.2; have := HB12.out.size; have := HS3.out; omega
            have n8 : B + 1 + 1 + 1 ≠ q4 := n7.symm
            clear h5
            go_upto_region 14 with (fail)
            go_region
            go_wp2
            obtain ⟨g2, g3⟩ := FIN.out W14 (.slice A3 (limitL e3 d.live).length c3) (.slice A4 s1.length c4) HB14.out
            refine bodyPost_ret (results_cct rfl _ _ (B + 1 + 1) (B + 1 + 1 + 1) 24 24 #[.slice A3 (limitL e3 d.live).length c3] #[.slice A4 s1.length c4] (0, 0) (0, 0) _ _ rfl (blk_drew g2) Tryd.underlying24 rfl (by kernel_rfl) rfl (blk_drew g3) Tryd.underlying24 rfl (by kernel_rfl)) rfl ?_
            obtain ⟨hA, hB'⟩ := RN.out W14 (.slice A3 (limitL e3 d.live).length c3) (.slice A4 s1.length c4) (limitL e3 d.live) s1 HB14.out
            replace hA := hA (Kd.R_below HR12.out H14.out.1)
            replace hB' := hB' (Kd.R_lower H14.out.2.2.1 HB12.out.size)
            have hF := F.out W14 (.slice A3 (limitL e3 d.live).length c3) (.slice A4 s1.length c4) HB14.out
            rw [HLL.out] at hA hB' hF ⊢
            exact ⟨_, _, rfl, Kd.R_drew hA, Kd.R_drew hB', hF.drew⟩
          · have z1 : (s3 != 0) = true := by simp [h5]
            have h6 := HH4.out
            rw [if_neg h5] at h6
            simp only [Option.some.injEq, Prod.mk.injEq] at h6
            obtain ⟨rfl, rfl, rfl⟩ := h6
            clear h5
            go_wp2
            obtain ⟨g2, g3⟩ := FIN.out W14 (.slice none 0 0) (.slice none 0 0) HB14.out
            refine bodyPost_ret (results_cct rfl _ _ (B + 1 + 1) (B + 1 + 1 + 1) 24 24 #[.slice none 0 0] #[.slice none 0 0] (0, 0) (0, 0) _ _ rfl g2 Tryd.underlying24 rfl (by kernel_rfl) rfl g3 Tryd.underlying24 rfl (by kernel_rfl)) rfl ?_
            exact ⟨_, _, rfl, Kd.R_nil _ _ _ _ _, Kd.R_nil _ _ _ _ _, F.out _ _ _ HB14.out⟩
      · have eL : limitE e3 = 2 := if_neg h3
        have z0 : (limitE e3 != 0) = true := by simp [eL]
        have h4 := HH3.out
        rw [if_neg h3] at h4
        simp only [Option.some.injEq, Prod.mk.injEq] at h4
        obtain ⟨rfl, rfl, rfl⟩ := h4
        have EL := Aside0.mk eL
        obtain ⟨c2, f2, c3', f3⟩ := (CX.out _ HB12.out).2
        clear h3 eL
        go_wp2
        obtain ⟨g2, g3⟩ := FIN.out W12 (.slice none 0 0) (.slice none 0 0) HB12.out
        refine bodyPost_ret (results_cct rfl _ _ (B + 1 + 1) (B + 1 + 1 + 1) 24 24 #[.slice none 0 0] #[.slice none 0 0] (0, 0) (0, 0) _ _ rfl g2 Tryd.underlying24 rfl (by kernel_rfl) rfl g3 Tryd.underlying24 rfl (by kernel_rfl)) rfl ?_
        exact ⟨_, _, by rw [EL.out]; rfl, Kd.R_nil _ _ _ _ _, Kd.R_nil _ _ _ _ _, F.out _ _ _ HB12.out⟩
    · rw [if_neg hm] at h2
      simp only [Option.some.injEq, Prod.mk.injEq] at h2
      obtain ⟨rfl, rfl, rfl⟩ := h2
      have hpf : Aside0 (pack_from.f a2 0 65536 = some false) := ⟨by unfold pack_from.f; by_cases h9 : a2 ≥ 0 <;> simp [h9]; omega⟩
      clear hm
      obtain ⟨c2, f2, c3', f3⟩ := (CX.out _ HB7.out).2
      go_wp2_with (first | (go_at_call 67; refine (pack_from.calls a2 0 65536 false _ hpf.out).mono ?_; rintro e w8 ⟨rfl, ⟨nd, rfl⟩⟩))
      have HB8 := Aside0.mk (pw_below_drewN HB7.out nd)
      obtain ⟨g2, g3⟩ := FIN.out (w7.drewN nd) (.slice none 0 0) (.slice none 0 0) HB8.out
      refine bodyPost_ret (results_cct rfl _ _ (B + 1 + 1) (B + 1 + 1 + 1) 24 24 #[.slice none 0 0] #[.slice none 0 0] (0, 0) (0, 0) _ _ rfl g2 Tryd.underlying24 rfl (by kernel_rfl) rfl g3 Tryd.underlying24 rfl (by kernel_rfl)) rfl ?_
      exact ⟨_, _, rfl, Kd.R_nil _ _ _ _ _, Kd.R_nil _ _ _ _ _, F.out _ _ _ HB8.out⟩
  · have z0 : (e1 != 0) = true := by simp [h1]
    have h2 := HH.out
    rw [if_neg h1] at h2
    simp only [Option.some.injEq, Prod.mk.injEq] at h2
    obtain ⟨rfl, rfl, rfl⟩ := h2
    clear h1
    obtain ⟨c2, f2, c3', f3⟩ := (CX.out _ HB7.out).2
    go_wp2
    obtain ⟨g2, g3⟩ := FIN.out w7 (.slice none 0 0) (.slice none 0 0) HB7.out
    refine bodyPost_ret (results_cct rfl _ _ (B + 1 + 1) (B + 1 + 1 + 1) 24 24 #[.slice none 0 0] #[.slice none 0 0] (0, 0) (0, 0) _ _ rfl g2 Tryd.underlying24 rfl (by kernel_rfl) rfl g3 Tryd.underlying24 rfl (by kernel_rfl)) rfl ?_
    exact ⟨_, _, rfl, Kd.R_nil _ _ _ _ _, Kd.R_nil _ _ _ _ _, F.out _ _ _ HB7.out⟩
end Go.Proofs.YtpldcikmlpegpaaDoor.PB
end
section
namespace Go.Proofs.YtpldcikmlpegpaaDoor.Col
open Go.RowKit Go.Proofs.YtpldcikmlpegpaaDoor.PB Go.Proofs.YtpldcikmlpegpaaDoorW.PrintWords Go.Proofs.YtpldcikmlpegpaaDoorW.PrintLast Go.Proofs.YtpldcikmlpegpaaDoorW.PrintMore
def Row (w : World) (g cap : Nat) (xs : List S48) : Prop :=
  ∃ cur : List Value, w.heap[g]? = some (.cells cur.toArray 48 (0, 0)) ∧ xs.length ≤ cap ∧ cap ≤ maxLen ∧ cur.length = cap * 3 ∧ cur.take (xs.length * 3) = xs.flatMap lcells
theorem reps_flat : ∀ (xs : List S48) (cs : List Value) (W : World) (base : Nat) (ok : Nat → Prop), Reps (k48.M W base ok) 3 xs cs → cs = xs.flatMap lcells := by
  intro xs
  induction xs with
  | nil => intro cs W base ok h; exact List.eq_nil_of_length_eq_zero (by simpa using h.1)
  | cons x xs ih =>
    intro cs W base ok h
    have h0 := k48_openM (h.2 0 x rfl)
    simp only [Nat.zero_mul, List.drop_zero] at h0
    have h1 := ih (cs.drop 3) W base ok ⟨by rw [List.length_drop, h.1, List.length_cons]; omega, fun j p hp => by
      have := h.2 (j + 1) p (by simpa using hp)
      rw [List.drop_drop]
      rwa [show 3 + j * 3 = (j + 1) * 3 by omega]⟩
    rw [List.flatMap_cons, ← h1]
    have e : cs = cs.take 3 ++ cs.drop 3 := (List.take_append_drop 3 cs).symm
    rw [h0] at e
    exact e
theorem flat_reps (xs : List S48) (W : World) (base : Nat) (ok : Nat → Prop) : Reps (k48.M W base ok) 3 xs (xs.flatMap lcells) := by
  refine ⟨flat_len xs, fun j p hp => ?_⟩
  have hj : j < xs.length := (List.getElem?_eq_some_iff.1 hp).1
  have e : ((xs.flatMap lcells).drop (j * 3)).take 3 = lcells p := by
    apply List.ext_getElem?
    intro i
    by_cases hi : i < 3
    · rw [List.getElem?_take_of_lt hi, List.getElem?_drop, flat_get xs j i hj hi, List.getD_eq_getElem?_getD, hp]
      rfl
    · rw [List.getElem?_eq_none (by simp; omega), List.getElem?_eq_none (by simp [lcells]; omega)]
  rw [e]
  exact k48_mkM W base ok p
theorem Row.of_R {w : World} {base : Nat} {v : Value} {xs : List S48} {ok : Nat → Prop} (h : Kd.R k48 48 w base ok v xs) :
    (v = .slice none 0 0 ∧ xs = []) ∨ ∃ g cap, v = .slice (some ⟨g, 0, none⟩) xs.length cap ∧ base ≤ g ∧ Row w g cap xs := by
  obtain ⟨_, inner, ⟨hl, hh⟩, hr⟩ := h
  rcases hh with ⟨rfl, h0⟩ | ⟨g, cap, cur, rfl, hg, hb, hn, hm, hs, ht⟩
  · exact .inl ⟨rfl, List.eq_nil_of_length_eq_zero h0⟩
  · refine .inr ⟨g, cap, rfl, hg, cur.toList, by simpa using hb, hn, hm, by rw [Array.length_toList]; exact hs, ?_⟩
    rw [show xs.length * 3 = xs.length * k48.sz from rfl, ht]
    exact reps_flat xs inner _ _ _ hr
theorem Row.to_R {w : World} {g cap : Nat} {xs : List S48} (h : Row w g cap xs) {base : Nat} (hb : base ≤ g) : Kd.R k48 48 w base (fun _ => True) (.slice (some ⟨g, 0, none⟩) xs.length cap) xs := by
  obtain ⟨cur, h1, h2, h3, h4, h5⟩ := h
  exact ⟨fun _ _ => trivial, xs.flatMap lcells, ⟨flat_len xs, .inr ⟨g, cap, cur.toArray, rfl, hb, h1, h2, h3, by rw [List.size_toArray]; exact h4, h5⟩⟩, flat_reps xs _ _ _⟩
section
variable {w : World} {g cap : Nat} {xs : List S48}
theorem Row.layer (h : Row w g cap xs) (i j : Nat) (hi : i < xs.length) (hj : j < 3) : w.cell? ⟨g, i * 3 + j, none⟩ = (lcells (xs.getD i z48))[j]? := by
  obtain ⟨cur, h1, h2, h3, h4, h5⟩ := h
  rw [blk_cell h1, List.getElem?_toArray, ← flat_get xs i j hi hj, ← h5, List.getElem?_take_of_lt (by omega)]
theorem Row.ice (h : Row w g cap xs) (i : Nat) (hi : i < xs.length) : w.cell? ⟨g, i * 3, none⟩ = some (.int .i64 (xs.getD i z48).f0) := h.layer i 0 hi (by omega)
theorem Row.wet (h : Row w g cap xs) (i : Nat) (hi : i < xs.length) : w.cell? ⟨g, i * 3 + 1, none⟩ = some (.int .i64 (xs.getD i z48).f1) := h.layer i 1 hi (by omega)
theorem Row.cold (h : Row w g cap xs) (i : Nat) (hi : i < xs.length) : w.cell? ⟨g, i * 3 + 2, none⟩ = some (.int .i64 (xs.getD i z48).f2) := h.layer i 2 hi (by omega)
theorem Row.free (h : Row w g cap xs) (k : Nat) : w.frozen? ⟨g, k, none⟩ = false := by obtain ⟨cur, h1, _⟩ := h; exact blk_frozen h1 k
theorem Row.lt (h : Row w g cap xs) : g < w.heap.size := by obtain ⟨cur, h1, _⟩ := h; exact blk_lt h1
theorem Row.le (h : Row w g cap xs) : xs.length ≤ cap := by obtain ⟨cur, _, h2, _⟩ := h; exact h2
theorem Row.max (h : Row w g cap xs) : cap ≤ maxLen := by obtain ⟨cur, _, _, h3, _⟩ := h; exact h3
theorem Row.some_ (h : Row w g cap xs) (k : Nat) (hk : k < cap * 3) : (w.cell? ⟨g, k, none⟩).isSome = true := by
  obtain ⟨cur, h1, h2, h3, h4, h5⟩ := h
  rw [blk_cell h1, List.getElem?_toArray, List.getElem?_eq_getElem (by omega)]
  rfl
theorem Row.drew (h : Row w g cap xs) : Row w.drew g cap xs := h
theorem Row.drewN (h : Row w g cap xs) (n : Nat) : Row (w.drewN n) g cap xs := h
theorem Row.below {w' : World} (h : Row w g cap xs) (hb : Below w.heap.size w w') : Row w' g cap xs := by
  obtain ⟨cur, h1, h2⟩ := h
  exact ⟨cur, blk_below h1 hb, h2⟩
theorem KeepG.setCells (g : Nat) : ∀ (vs : List Value) (o : Nat) (w : World), KeepG g w (w.setCells g o vs)
  | [], _, _ => KeepG.refl _ _
  | v :: r, o, w => (KeepG.set g w o v).trans (KeepG.setCells g r (o + 1) _)
theorem heap_setCells (g : Nat) (t : TypeId) : ∀ (vs : List Value) (o : Nat) (w : World) (cur : List Value), w.heap[g]? = some (.cells cur.toArray t (0, 0)) → o + vs.length ≤ cur.length → (w.setCells g o vs).heap[g]? = some (.cells (splice cur o vs).toArray t (0, 0))
  | [], o, w, cur, h, _ => by simpa [splice, World.setCells] using h
  | v :: r, o, w, cur, h, hl => by
    have h1 := blk_set h o v
    rw [List.setIfInBounds_toArray] at h1
    have ih := heap_setCells g t r (o + 1) (w.setCell ⟨g, o, none⟩ v) (cur.set o v) h1 (by simp at hl ⊢; omega)
    rw [World.setCells, ih]
    have e := list_seg_step cur o v r (by simp at hl; omega)
    unfold splice
    simp only [List.length_cons]
    simp only [List.append_assoc] at e
    rw [e]
theorem Row.lay (h : Row w g cap xs) (o : Nat) (vs : List Value) (ys : List S48) (ho : o + vs.length ≤ cap * 3) (hl : ys.length ≤ cap)
    (e : ∀ cur : List Value, cur.length = cap * 3 → cur.take (xs.length * 3) = xs.flatMap lcells → (splice cur o vs).take (ys.length * 3) = ys.flatMap lcells) : Row (w.setCells g o vs) g cap ys := by
  obtain ⟨cur, h1, h2, h3, h4, h5⟩ := h
  exact ⟨splice cur o vs, heap_setCells g _ vs o w cur h1 (by omega), hl, h3, by rw [length_splice _ _ _ (by omega)]; exact h4, e cur h4 h5⟩
theorem Row.put (h : Row w g cap xs) (i : Nat) (hi : i < xs.length) (x y z : Int) :
    Row (((w.setCell ⟨g, i * 3, none⟩ (.int .i64 x)).setCell ⟨g, i * 3 + 1, none⟩ (.int .i64 y)).setCell ⟨g, i * 3 + 2, none⟩ (.int .i64 z)) g cap (xs.set i ⟨x, y, z⟩) := by
  have hle := h.le
  refine Row.lay h (i * 3) (lcells ⟨x, y, z⟩) (xs.set i ⟨x, y, z⟩) (by simp [lcells]; omega) (by simpa using hle) (fun cur hc ht => ?_)
  have hL : (lcells ⟨x, y, z⟩).length = 3 := rfl
  apply List.ext_getElem?
  intro k
  by_cases hk : k < xs.length * 3
  · rw [List.getElem?_take_of_lt (by simpa using hk)]
    have ek : k = k / 3 * 3 + k % 3 := by omega
    have h3 : k % 3 < 3 := by omega
    have hk3 : k / 3 < xs.length := by omega
    have e2 : ((xs.set i ⟨x, y, z⟩).flatMap lcells)[k]? = (lcells ((xs.set i ⟨x, y, z⟩).getD (k / 3) z48))[k % 3]? := by
      conv => lhs; rw [ek]
      exact flat_get _ _ _ (by simpa using hk3) h3
    have e3 : cur[k]? = (lcells (xs.getD (k / 3) z48))[k % 3]? := by
      have : (cur.take (xs.length * 3))[k]? = cur[k]? := List.getElem?_take_of_lt hk
      rw [← this, ht]
      conv => lhs; rw [ek]
      exact flat_get _ _ _ hk3 h3
    rw [e2]
    unfold splice
    by_cases hki : k / 3 = i
    · rw [List.getElem?_append_right (by simp; omega), List.getElem?_append_left (by simp [hL]; omega)]
      have e4 : k - (cur.take (i * 3)).length = k % 3 := by simp; omega
      rw [e4, hki]
      simp [List.getD_eq_getElem?_getD, hi]
    · have e5 : (xs.set i ⟨x, y, z⟩).getD (k / 3) z48 = xs.getD (k / 3) z48 := by
        simp [List.getD_eq_getElem?_getD, List.getElem?_set_ne (Ne.symm hki)]
      rw [e5, ← e3]
      by_cases hlt : k < i * 3
      · rw [List.getElem?_append_left (by simp; omega), List.getElem?_take_of_lt hlt]
      · rw [List.getElem?_append_right (by simp; omega), List.getElem?_append_right (by simp [hL]; omega), List.getElem?_drop]
        congr 1
        simp [hL]
        omega
  · rw [List.getElem?_eq_none (by simp; omega), List.getElem?_eq_none (by rw [flat_len]; simp; omega)]
end
end Go.Proofs.YtpldcikmlpegpaaDoor.Col
end
section
namespace Go.Proofs.YtpldcikmlpegpaaDoor.Col
open Go.RowKit Go.Proofs.YtpldcikmlpegpaaDoor.PB Go.Proofs.YtpldcikmlpegpaaDoorW.PrintWords Go.Proofs.YtpldcikmlpegpaaDoorW.PrintLast Go.Proofs.YtpldcikmlpegpaaDoorW.PrintMore
theorem run_clear_wide {P : Program} (w : World) (t e ty : TypeId) (z : Value) (ht : P.underlying t = some (.slice e)) (hv : ∀ w, (zeroValue e).run P w = .ok z w) (b o n c : Nat) (hn : 0 < n) (Z : List Value) (hZ : (Builtin.zeroCells z.cells n).toList = Z) (h1 : ∀ v ∈ Z, v.oneCell' = true)
    (hc : ∀ j, j < Z.length → (w.cell? ⟨b, o + j, none⟩).isSome = true) (hf : ∀ j, j < Z.length → w.frozen? ⟨b, o + j, none⟩ = false) :
    (Builtin.clear_ #[t] ty #[.slice (some ⟨b, o, none⟩) n c]).run P w = .ok (.tuple #[]) (w.setCells b o Z) := by
  have hst := run_storeCells_cells (P := P) b o Z 0 w (by simpa using hc) (by simpa using hf) h1
  simp only [Nat.add_zero] at hst
  obtain ⟨m, rfl⟩ : ∃ m, n = m + 1 := ⟨n - 1, by omega⟩
  simp [Builtin.clear_, run_underlying ht, hv, hZ, hst]
theorem zero_layer (w : World) : (zeroValue 48).run Tryd.prog w = .ok (.agg #[.int .i64 0, .int .i64 0, .int .i64 0]) w := by kernel_rfl
theorem zeros_len (n : Nat) : (Builtin.zeroCells (Value.agg #[.int .i64 0, .int .i64 0, .int .i64 0]).cells n).toList.length = n * 3 := by
  simp [Builtin.zeroCells, Value.cells]
theorem zeros_one (n : Nat) : ∀ v ∈ (Builtin.zeroCells (Value.agg #[.int .i64 0, .int .i64 0, .int .i64 0]).cells n).toList, v.oneCell' = true := by
  intro v hv
  simp only [Builtin.zeroCells, Value.cells, Array.toList_map, List.mem_map] at hv
  obtain ⟨i, _, rfl⟩ := hv
  have h3 : i % 3 = 0 ∨ i % 3 = 1 ∨ i % 3 = 2 := by omega
  show ((#[Value.int .i64 0, .int .i64 0, .int .i64 0] : Array Value)[i % 3]!).oneCell' = true
  rcases h3 with h | h | h <;> rw [h] <;> rfl
theorem flat_drop (xs : List S48) : ∀ (i : Nat), (xs.drop i).flatMap lcells = (xs.flatMap lcells).drop (i * 3) := by
  induction xs with
  | nil => intro i; simp
  | cons x xs ih =>
    intro i
    cases i with
    | zero => simp
    | succ i =>
      rw [List.drop_succ_cons, ih, List.flatMap_cons, List.drop_append]
      have e1 : (lcells x).drop ((i + 1) * 3) = [] := List.drop_eq_nil_of_le (by simp [lcells]; omega)
      have e2 : (i + 1) * 3 - (lcells x).length = i * 3 := by simp [lcells]; omega
      rw [e1, e2, List.nil_append]
theorem flat_take (xs : List S48) : ∀ (i : Nat), (xs.take i).flatMap lcells = (xs.flatMap lcells).take (i * 3) := by
  induction xs with
  | nil => intro i; simp
  | cons x xs ih =>
    intro i
    cases i with
    | zero => simp
    | succ i =>
      rw [List.take_succ_cons, List.flatMap_cons, ih, List.flatMap_cons, List.take_append]
      have e1 : (lcells x).take ((i + 1) * 3) = lcells x := List.take_of_length_le (by simp [lcells]; omega)
      have e2 : (i + 1) * 3 - (lcells x).length = i * 3 := by simp [lcells]; omega
      rw [e1, e2]
set_option maxHeartbeats 4000000 in
set_option maxRecDepth 1000000 in
theorem delete_calls (g cap i j : Nat) (xs : List S48) (w : World) (hr : Row w g cap xs) (hij : i < j) (hj : j ≤ xs.length) :
    Calls Tryd.prog 70 #[.slice (some ⟨g, 0, none⟩) xs.length cap, .int .i64 i, .int .i64 j] w fun e w' => e = .returned (.slice (some ⟨g, 0, none⟩) (i + (xs.length - j)) cap) ∧ Row w' g cap (xs.take i ++ xs.drop j) ∧ KeepG g w w' := by
  have hcap : xs.length ≤ cap := hr.le
  have hmax : cap ≤ 9223372036854775807 := by have := hr.max; unfold maxLen at this; omega
  obtain ⟨i0, hi0, hz0, hz1, hz2⟩ := info_parts info48
  obtain ⟨n, hn⟩ : ∃ n, xs.length = n := ⟨_, rfl⟩
  obtain ⟨news, hnews⟩ : ∃ news, (xs.drop j).flatMap lcells = news := ⟨_, rfl⟩
  have hlen : news.length = (n - j) * 3 := by rw [← hnews, flat_len, List.length_drop, hn]
  obtain ⟨A, hA, hsrc⟩ : ∃ A : Addr, (if cap = j then some (⟨g, 0, none⟩ : Addr) else some ⟨g, j * 3, none⟩) = some A ∧ Hid (∀ t u, news[t]? = some u → w.drew.cell? (A.add t) = some u) := by
    by_cases h : cap = j
    · refine ⟨⟨g, 0, none⟩, by simp [h], fun t u hu => ?_⟩
      have h0 : news.length = 0 := by rw [hlen]; omega
      rw [List.length_eq_zero_iff.1 h0] at hu
      simp at hu
    · refine ⟨⟨g, j * 3, none⟩, by simp [h], fun t u hu => ?_⟩
      have ht : t < (n - j) * 3 := by have := (List.getElem?_eq_some_iff.1 hu).1; rwa [hlen] at this
      rw [Addr.add_lit]
      have e : j * 3 + t = (j + t / 3) * 3 + t % 3 := by omega
      rw [e]
      show w.cell? _ = _
      rw [hr.layer (j + t / 3) (t % 3) (by omega) (by omega), ← flat_get xs _ _ (by omega) (by omega), ← e, ← hu, ← hnews, flat_drop, List.getElem?_drop]
  have s1 : Hid (news.length = (n - j) * 3) := hlen
  have s2 : Hid (∀ u ∈ news, u.oneCell' = true) := by rw [← hnews]; exact flat_one _
  have s3 : Hid (∀ t, t < news.length → (w.drew.cell? ⟨g, 0 + i * 3 + t, none⟩).isSome = true ∧ w.drew.frozen? ⟨g, 0 + i * 3 + t, none⟩ = false) := by
    intro t ht
    rw [hlen] at ht
    exact ⟨hr.some_ _ (by omega), hr.free _⟩
  obtain ⟨W1, hW1⟩ : ∃ W1, W1 = w.drew.setCells g (0 + i * 3) news := ⟨_, rfl⟩
  have hlast : i + (n - j) < n := by omega
  have hr1 : Row W1 g cap (xs.take i ++ xs.drop j) := by
    rw [hW1]
    refine hr.drew.lay (0 + i * 3) news (xs.take i ++ xs.drop j) (by omega) (by simp; omega) (fun cur hc ht => ?_)
    have e1 : (xs.take i ++ xs.drop j).length * 3 = i * 3 + news.length := by rw [hlen]; simp; omega
    rw [e1, List.flatMap_append, hnews, flat_take, ← ht]
    unfold splice
    rw [Nat.zero_add, ← List.append_assoc, List.take_append_of_le_length (by simp; omega), List.take_of_length_le (by simp; omega), List.take_take]
    rw [hn, Nat.min_eq_left (by omega)]
  have K1 : Aside0 (KeepG g w W1) := ⟨by rw [hW1]; exact (KeepG.drew g w).trans (KeepG.setCells _ _ _ _)⟩
  have hl1 : (xs.take i ++ xs.drop j).length = i + (n - j) := by simp; omega
  obtain ⟨Z, hZ⟩ : ∃ Z, (Builtin.zeroCells (Value.agg #[.int .i64 0, .int .i64 0, .int .i64 0]).cells (n - (i + (n - j)))).toList = Z := ⟨_, rfl⟩
  have hZl : Z.length = (n - (i + (n - j))) * 3 := by rw [← hZ]; exact zeros_len _
  have hcl : ∀ ty, (Builtin.clear_ #[22] ty #[.slice (some ⟨g, (i + (n - j)) * 3, none⟩) (n - (i + (n - j))) (cap - (i + (n - j)))]).run Tryd.prog W1 = .ok (.tuple #[]) (W1.setCells g ((i + (n - j)) * 3) Z) :=
    fun ty => run_clear_wide W1 _ _ ty _ Tryd.underlying22 zero_layer g ((i + (n - j)) * 3) _ _ (by omega) Z hZ (by rw [← hZ]; exact zeros_one _) (fun t ht => hr1.some_ _ (by omega)) (fun t ht => hr1.free _)
  have R2 : Aside0 (Row (W1.setCells g ((i + (n - j)) * 3) Z) g cap (xs.take i ++ xs.drop j)) := by
    refine ⟨hr1.lay _ Z _ (by omega) (by omega) (fun cur hc ht => ?_)⟩
    unfold splice
    rw [hl1] at ht ⊢
    rw [List.take_append_of_le_length (by simp; omega), List.take_take, Nat.min_self]
    exact ht
  have hW : Hid (W1 = w.drew.setCells g (0 + i * 3) news) := hW1
  have hic : i ≤ cap := by omega
  have hjc : j ≤ cap := by omega
  rw [hn] at hj hcap ⊢
  have i1 : (0 : Int) ≤ (i : Int) := by omega
  have i2 : (i : Int) ≤ (j : Int) := by omega
  have i3 : (j : Int) ≤ (n : Int) := by omega
  have i4 : (n : Int) ≤ (cap : Int) := by omega
  have z0 : ((i : Int) == (j : Int)) = false := by simp; omega
  clear hW1 hr1 hr hlen hnews hl1 hZ hZl hn
  go_enter Tryd.func70, Tryd.ntmps70
  go_upto_region 5 with (fail)
  go_region_law (refine step_append_room rfl (.tmp 22) (.tmp 25) 22 rfl 48 i0 3 Tryd.underlying22 hi0 hz1 g 0 i cap (by simp [Act.eval, Act.put]) A (n - j) (cap - j) news (by simp [Act.eval, Act.put]) s1.out hsrc.out s2.out (by omega) s3.out ?_; rw [← hW.out])
  go_wp2
  go_ret
  exact ⟨rfl, R2.out, K1.out.trans (KeepG.setCells _ _ _ _)⟩
theorem delete_calls' (g cap i j n : Nat) (I J : Int) (xs : List S48) (w : World) (hn : xs.length = n) (hI : I = (i : Int)) (hJ : J = (j : Int)) (hr : Row w g cap xs) (hij : i < j) (hj : j ≤ n) :
    Calls Tryd.prog 70 #[.slice (some ⟨g, 0, none⟩) n cap, .int .i64 I, .int .i64 J] w fun e w' => e = .returned (.slice (some ⟨g, 0, none⟩) (i + (n - j)) cap) ∧ Row w' g cap (xs.take i ++ xs.drop j) ∧ KeepG g w w' := by
  subst hn hI hJ
  exact delete_calls g cap i j xs w hr hij hj
set_option maxHeartbeats 1000000 in
set_option maxRecDepth 100000 in
theorem clone_calls (A : Option Addr) (cap : Nat) (l : List S48) (w : World) (hr : Kd.C k48 w A l.length l) (hl : l.length ≤ 64) :
    Calls Tryd.prog 68 #[.slice A l.length cap] w fun e w' => ∃ v, e = .returned v ∧ Kd.R k48 48 w' w.heap.size (fun _ => True) v l ∧ Below w.heap.size w w' := by
  have HR := Aside0.mk hr
  have HL := Aside0.mk hl
  have heq := fun (w : World) => Lib.run_eql_slice_nil (P := Tryd.prog) w 22 48 A l.length cap 0 0 Tryd.underlying22
  clear hr hl
  cases A with
  | none =>
    have H0 : Aside0 (l = []) := ⟨by
      cases l with
      | nil => rfl
      | cons x xs => obtain ⟨ad, e, _⟩ := HR.out.2.2 (by simp); cases e⟩
    simp only [Option.isNone_none] at heq
    go_enter Tryd.func68, Tryd.ntmps68
    go_wp2
    go_ret
    obtain rfl := H0.out
    exact ⟨_, rfl, Kd.R_nil _ _ _ _ _, Below.refl _ _⟩
  | some a =>
    simp only [Option.isNone_some] at heq
    go_enter Tryd.func68, Tryd.ntmps68
    go_wp2_with (first | ((with_reducible refine gate_dst (N := 5) rfl ?_); refine Kd.R_lit k48 _ 48 ?hg (N := 5) ?hd (xs := ([] : List (S48))) (inner := []) (ok := fun _ => True) (okp := fun _ => True) ?hr ?hp (fun _ hk => hk) trivial (Below.refl _ _) (Nat.le_refl _) (by simp) ?_; (case hd => rfl); (case hg => rfl); (case hr => first | (go_simp; done) | (go_simp; rfl)); (case hp => exact (Reps.none _ _)); intro v1 w4 ho5 hb hg_ hnew_; have HO := Aside0.mk ho5; have HB := Aside0.mk hb; clear hg_ hnew_ hb ho5) | ((with_reducible refine gate_builtin (b := .append) (xs := #[.tmp 5, .tmp 6]) rfl ?_); at_builtin; refine Kd.R_append_rows k48 (w0 := w) w.heap.size rfl (.tmp 5) (.tmp 6) 22 48 (.agg #[(.int .i64 0), (.int .i64 0), (.int .i64 0)]) 24 rfl Tryd.underlying22 info48 rfl (by decide) (by omega) v1 [] l _ _ _ (fun _ => True) (fun _ => False) rfl rfl HO.out (Kd.C_below HR.out HB.out) (fun _ _ h => h) (fun _ h => h.elim) (fun _ _ => trivial) HB.out HB.out.size ?aL ?_; (case aL => have := HL.out; simp only [List.length_nil]; omega); intro v2 w6 ho hb hg hat; have HO6 := Aside0.mk ho; have HB6 := Aside0.mk hb; clear ho hb hg hat))
    go_ret
    exact ⟨_, rfl, HO6.out, HB6.out⟩
end Go.Proofs.YtpldcikmlpegpaaDoor.Col
end
section
namespace Go.Proofs.YtpldcikmlpegpaaDoor.PB
open Go.RowKit Go.Proofs.YtpldcikmlpegpaaDoorW.PrintWords Go.Proofs.YtpldcikmlpegpaaDoorW.PrintLast Go.Proofs.YtpldcikmlpegpaaDoorW.PrintMore
attribute [local go_sem] max2_int min2_int max_two min_two max_three min_three max_four min_four   -- for this text's walks alone
set_option linter.unusedVariables false
set_option linter.unusedSimpArgs false
def pack_joined.f (a0_0 : Int) (a0_1 : Int) (a0_2 : Int) (a1_0 : Int) (a1_1 : Int) (a1_2 : Int) : Option (Int × Int × Int) := some (wrap64 ((wrap64 (a0_0 + a1_0)) + (mn (wrap64 (a0_1 + a1_1)) (wrap64 (a0_2 + a1_2)))), wrap64 ((wrap64 (a0_1 + a1_1)) - (mn (wrap64 (a0_1 + a1_1)) (wrap64 (a0_2 + a1_2)))), wrap64 ((wrap64 (a0_2 + a1_2)) - (mn (wrap64 (a0_1 + a1_1)) (wrap64 (a0_2 + a1_2)))))
set_option maxHeartbeats 8000000 in
set_option maxRecDepth 100000 in
theorem pack_joined.calls (a0_0 : Int) (a0_1 : Int) (a0_2 : Int) (a1_0 : Int) (a1_1 : Int) (a1_2 : Int) (r1 : Int) (r2 : Int) (r3 : Int) (w : World) (h : pack_joined.f a0_0 a0_1 a0_2 a1_0 a1_1 a1_2 = some (r1, r2, r3)) :
    Calls Tryd.prog 69 #[.agg #[.int .i64 a0_0, .int .i64 a0_1, .int .i64 a0_2], .agg #[.int .i64 a1_0, .int .i64 a1_1, .int .i64 a1_2]] w fun e w' => e = .returned (.agg #[.int .i64 r1, .int .i64 r2, .int .i64 r3]) ∧ Below w.heap.size w w' := by
  have hu48 := Tryd.underlying48
  have HB := Aside0.mk (Below.refl w.heap.size w)
  have H : (some (wrap64 ((wrap64 (a0_0 + a1_0)) + (mn (wrap64 (a0_1 + a1_1)) (wrap64 (a0_2 + a1_2)))), wrap64 ((wrap64 (a0_1 + a1_1)) - (mn (wrap64 (a0_1 + a1_1)) (wrap64 (a0_2 + a1_2)))), wrap64 ((wrap64 (a0_2 + a1_2)) - (mn (wrap64 (a0_1 + a1_1)) (wrap64 (a0_2 + a1_2)))))) = some (r1, r2, r3) := h
  clear h
  obtain ⟨ji3, hji3⟩ : ∃ j_ : Int, (mn (wrap64 (a0_1 + a1_1)) (wrap64 (a0_2 + a1_2))) = j_ := ⟨_, rfl⟩
  replace H : (some (wrap64 ((wrap64 (a0_0 + a1_0)) + (ji3)), wrap64 ((wrap64 (a0_1 + a1_1)) - (ji3)), wrap64 ((wrap64 (a0_2 + a1_2)) - (ji3)))) = some (r1, r2, r3) := by first | (rw [hji3] at H; exact H) | (simp only [hji3] at H ⊢; exact H)
  have hji3_ : (if (wrap64 (a0_2 + a1_2)) < (wrap64 (a0_1 + a1_1)) then (wrap64 (a0_2 + a1_2)) else (wrap64 (a0_1 + a1_1))) = ji3 := hji3
  simp only [Option.some.injEq, Prod.mk.injEq] at H
  obtain ⟨rfl, rfl, rfl⟩ := H
  go_enter Tryd.func69, Tryd.ntmps69
  go_wp2_with (first | ((with_reducible refine gate_dst (N := 2) rfl ?_); refine box_event ?hg (N := 2) ?hd (cs := #[.int .i64 a0_0, .int .i64 a0_1, .int .i64 a0_2]) (t := 48) ?hr ?_; (case hd => rfl); (case hg => rfl); (case hr => first | (go_simp; done) | (go_simp; rfl)); intro gb119 hg w4 hbox hb; have n0_ := Aside0.mk (below_step (by repeat (first | (with_reducible first | exact HB.out | apply below_alloc | apply pw_below_drewN | apply below_drew1) | exact HB.out)) hb); have n1_ := Aside0.mk (hbox); have n2_ := Aside0.mk ((by rw [hg]; exact (below_size (by repeat (first | (with_reducible first | exact HB.out | apply below_alloc | apply pw_below_drewN | apply below_drew1) | exact HB.out))) : w.heap.size ≤ gb119)); have n3_ := Aside0.mk ((by rw [hg]; exact (below_size (by repeat (first | (with_reducible first | exact HB.out | apply below_alloc | apply pw_below_drewN | apply below_drew1) | exact HB.out))) : w.heap.size ≤ gb119)); clear HB; have HB := n0_; have BK119 := n1_; have GW119 := n2_; have GE119 := n3_; clear n0_ n1_ n2_ n3_; clear hb hbox hg) | ((with_reducible refine gate_dst (N := 3) rfl ?_); refine box_event ?hg (N := 3) ?hd (cs := #[.int .i64 a1_0, .int .i64 a1_1, .int .i64 a1_2]) (t := 48) ?hr ?_; (case hd => rfl); (case hg => rfl); (case hr => first | (go_simp; done) | (go_simp; rfl)); intro gb120 hg w5 hbox hb; have n0_ := Aside0.mk (blk_below (g := gb119) (o := .cells #[.int .i64 a0_0, .int .i64 a0_1, .int .i64 a0_2] 48 (0, 0)) (by (with_reducible repeat (first | refine blk_drewN ?_ _ | refine blk_drew ?_ | refine blk_alloc ?_ _)); exact BK119.out) hb); have n1_ := Aside0.mk (below_step (by repeat (first | (with_reducible first | exact HB.out | apply below_alloc | apply pw_below_drewN | apply below_drew1 | refine below_set ?_ GE119.out) | exact HB.out)) hb); have n2_ := Aside0.mk (hbox); have n3_ := Aside0.mk ((by rw [hg]; exact (below_size (by repeat (first | (with_reducible first | exact HB.out | apply below_alloc | apply pw_below_drewN | apply below_drew1 | refine below_set ?_ GE119.out) | exact HB.out))) : w.heap.size ≤ gb120)); have n4_ := Aside0.mk ((by rw [hg]; exact (below_size (by repeat (first | (with_reducible first | exact HB.out | apply below_alloc | apply pw_below_drewN | apply below_drew1 | refine below_set ?_ GE119.out) | exact HB.out))) : w.heap.size ≤ gb120)); have n5_ := Aside0.mk ((by rw [hg]; exact Nat.ne_of_lt (blk_lt (g := gb119) (o := .cells #[.int .i64 a0_0, .int .i64 a0_1, .int .i64 a0_2] 48 (0, 0)) (by (with_reducible repeat (first | refine blk_drewN ?_ _ | refine blk_drew ?_ | refine blk_alloc ?_ _)); exact BK119.out)) : gb119 ≠ gb120)); have n6_ := Aside0.mk ((by rw [hg]; exact Nat.ne_of_gt (blk_lt (g := gb119) (o := .cells #[.int .i64 a0_0, .int .i64 a0_1, .int .i64 a0_2] 48 (0, 0)) (by (with_reducible repeat (first | refine blk_drewN ?_ _ | refine blk_drew ?_ | refine blk_alloc ?_ _)); exact BK119.out)) : gb120 ≠ gb119)); clear BK119; clear HB; have BK119 := n0_; have HB := n1_; have BK120 := n2_; have GW120 := n3_; have GE120 := n4_; have NB119_120 := n5_; have NB120_119 := n6_; clear n0_ n1_ n2_ n3_ n4_ n5_ n6_; clear hb hbox hg) | ((with_reducible refine gate_dst (N := 4) rfl ?_); refine box_event ?hg (N := 4) ?hd (cs := #[.int .i64 0, .int .i64 0, .int .i64 0]) (t := 48) ?hr ?_; (case hd => rfl); (case hg => rfl); (case hr => first | (go_simp; done) | (go_simp; rfl)); intro gb121 hg w6 hbox hb; have n0_ := Aside0.mk (blk_below (g := gb119) (o := .cells #[.int .i64 a0_0, .int .i64 a0_1, .int .i64 a0_2] 48 (0, 0)) (by (with_reducible repeat (first | refine blk_drewN ?_ _ | refine blk_drew ?_ | refine blk_alloc ?_ _)); exact BK119.out) hb); have n1_ := Aside0.mk (blk_below (g := gb120) (o := .cells #[.int .i64 a1_0, .int .i64 a1_1, .int .i64 a1_2] 48 (0, 0)) (by (with_reducible repeat (first | refine blk_drewN ?_ _ | refine blk_drew ?_ | refine blk_alloc ?_ _)); exact BK120.out) hb); have n2_ := Aside0.mk (below_step (by repeat (first | (with_reducible first | exact HB.out | apply below_alloc | apply pw_below_drewN | apply below_drew1 | refine below_set ?_ GE119.out | refine below_set ?_ GE120.out) | exact HB.out)) hb); have n3_ := Aside0.mk (hbox); have n4_ := Aside0.mk ((by rw [hg]; exact (below_size (by repeat (first | (with_reducible first | exact HB.out | apply below_alloc | apply pw_below_drewN | apply below_drew1 | refine below_set ?_ GE119.out | refine below_set ?_ GE120.out) | exact HB.out))) : w.heap.size ≤ gb121)); have n5_ := Aside0.mk ((by rw [hg]; exact (below_size (by repeat (first | (with_reducible first | exact HB.out | apply below_alloc | apply pw_below_drewN | apply below_drew1 | refine below_set ?_ GE119.out | refine below_set ?_ GE120.out) | exact HB.out))) : w.heap.size ≤ gb121)); have n6_ := Aside0.mk ((by rw [hg]; exact Nat.ne_of_lt (blk_lt (g := gb119) (o := .cells #[.int .i64 a0_0, .int .i64 a0_1, .int .i64 a0_2] 48 (0, 0)) (by (with_reducible repeat (first | refine blk_drewN ?_ _ | refine blk_drew ?_ | refine blk_alloc ?_ _)); exact BK119.out)) : gb119 ≠ gb121)); have n7_ := Aside0.mk ((by rw [hg]; exact Nat.ne_of_gt (blk_lt (g := gb119) (o := .cells #[.int .i64 a0_0, .int .i64 a0_1, .int .i64 a0_2] 48 (0, 0)) (by (with_reducible repeat (first | refine blk_drewN ?_ _ | refine blk_drew ?_ | refine blk_alloc ?_ _)); exact BK119.out)) : gb121 ≠ gb119)); have n8_ := Aside0.mk ((by rw [hg]; exact Nat.ne_of_lt (blk_lt (g := gb120) (o := .cells #[.int .i64 a1_0, .int .i64 a1_1, .int .i64 a1_2] 48 (0, 0)) (by (with_reducible repeat (first | refine blk_drewN ?_ _ | refine blk_drew ?_ | refine blk_alloc ?_ _)); exact BK120.out)) : gb120 ≠ gb121)); have n9_ := Aside0.mk ((by rw [hg]; exact Nat.ne_of_gt (blk_lt (g := gb120) (o := .cells #[.int .i64 a1_0, .int .i64 a1_1, .int .i64 a1_2] 48 (0, 0)) (by (with_reducible repeat (first | refine blk_drewN ?_ _ | refine blk_drew ?_ | refine blk_alloc ?_ _)); exact BK120.out)) : gb121 ≠ gb120)); clear BK119; clear BK120; clear HB; have BK119 := n0_; have BK120 := n1_; have HB := n2_; have BK121 := n3_; have GW121 := n4_; have GE121 := n5_; have NB119_121 := n6_; have NB121_119 := n7_; have NB120_121 := n8_; have NB121_120 := n9_; clear n0_ n1_ n2_ n3_ n4_ n5_ n6_ n7_ n8_ n9_; clear hb hbox hg; have hnb7 := NB119_120.out; have hnc7 := NB120_119.out; have hnb8 := NB119_121.out; have hnc8 := NB121_119.out; have hcz9_0 : w6.cell? ⟨gb119, 0, none⟩ = some (.int .i64 a0_0) := (blk_cell BK119.out 0).trans rfl; have hcz9_1 : w6.cell? ⟨gb119, 1, none⟩ = some (.int .i64 a0_1) := (blk_cell BK119.out 1).trans rfl; have hcz9_2 : w6.cell? ⟨gb119, 2, none⟩ = some (.int .i64 a0_2) := (blk_cell BK119.out 2).trans rfl; have hfz9_0 := blk_frozen BK119.out 0; have hfz9_1 := blk_frozen BK119.out 1; have hfz9_2 := blk_frozen BK119.out 2; have hnb10 := NB120_121.out; have hnc10 := NB121_120.out; have hcz11_0 : w6.cell? ⟨gb120, 0, none⟩ = some (.int .i64 a1_0) := (blk_cell BK120.out 0).trans rfl; have hcz11_1 : w6.cell? ⟨gb120, 1, none⟩ = some (.int .i64 a1_1) := (blk_cell BK120.out 1).trans rfl; have hcz11_2 : w6.cell? ⟨gb120, 2, none⟩ = some (.int .i64 a1_2) := (blk_cell BK120.out 2).trans rfl; have hfz11_0 := blk_frozen BK120.out 0; have hfz11_1 := blk_frozen BK120.out 1; have hfz11_2 := blk_frozen BK120.out 2) | ((with_reducible refine gate_dst (N := 5) rfl ?_); refine box_event ?hg (N := 5) ?hd (cs := #[.int .i64 0, .int .i64 0, .int .i64 0]) (t := 48) ?hr ?_; (case hd => rfl); (case hg => rfl); (case hr => first | (go_simp; done) | (go_simp; rfl)); intro gb122 hg w12 hbox hb; have n0_ := Aside0.mk (blk_below (g := gb119) (o := .cells #[.int .i64 a0_0, .int .i64 a0_1, .int .i64 a0_2] 48 (0, 0)) (by (with_reducible repeat (first | refine blk_drewN ?_ _ | refine blk_drew ?_ | refine blk_alloc ?_ _)); exact BK119.out) hb); have n1_ := Aside0.mk (blk_below (g := gb120) (o := .cells #[.int .i64 a1_0, .int .i64 a1_1, .int .i64 a1_2] 48 (0, 0)) (by (with_reducible repeat (first | refine blk_drewN ?_ _ | refine blk_drew ?_ | refine blk_alloc ?_ _)); exact BK120.out) hb); have n2_ := Aside0.mk (blk_below (g := gb121) (o := .cells #[.int .i64 0, .int .i64 0, .int .i64 0] 48 (0, 0)) (by (with_reducible repeat (first | refine blk_drewN ?_ _ | refine blk_drew ?_ | refine blk_alloc ?_ _)); exact BK121.out) hb); have n3_ := Aside0.mk (below_step (by repeat (first | (with_reducible first | exact HB.out | apply below_alloc | apply pw_below_drewN | apply below_drew1 | refine below_set ?_ GE119.out | refine below_set ?_ GE120.out | refine below_set ?_ GE121.out) | exact HB.out)) hb); have n4_ := Aside0.mk (hbox); have n5_ := Aside0.mk ((by rw [hg]; exact (below_size (by repeat (first | (with_reducible first | exact HB.out | apply below_alloc | apply pw_below_drewN | apply below_drew1 | refine below_set ?_ GE119.out | refine below_set ?_ GE120.out | refine below_set ?_ GE121.out) | exact HB.out))) : w.heap.size ≤ gb122)); have n6_ := Aside0.mk ((by rw [hg]; exact (below_size (by repeat (first | (with_reducible first | exact HB.out | apply below_alloc | apply pw_below_drewN | apply below_drew1 | refine below_set ?_ GE119.out | refine below_set ?_ GE120.out | refine below_set ?_ GE121.out) | exact HB.out))) : w.heap.size ≤ gb122)); have n7_ := Aside0.mk ((by rw [hg]; exact Nat.ne_of_lt (blk_lt (g := gb119) (o := .cells #[.int .i64 a0_0, .int .i64 a0_1, .int .i64 a0_2] 48 (0, 0)) (by (with_reducible repeat (first | refine blk_drewN ?_ _ | refine blk_drew ?_ | refine blk_alloc ?_ _)); exact BK119.out)) : gb119 ≠ gb122)); have n8_ := Aside0.mk ((by rw [hg]; exact Nat.ne_of_gt (blk_lt (g := gb119) (o := .cells #[.int .i64 a0_0, .int .i64 a0_1, .int .i64 a0_2] 48 (0, 0)) (by (with_reducible repeat (first | refine blk_drewN ?_ _ | refine blk_drew ?_ | refine blk_alloc ?_ _)); exact BK119.out)) : gb122 ≠ gb119)); have n9_ := Aside0.mk ((by rw [hg]; exact Nat.ne_of_lt (blk_lt (g := gb120) (o := .cells #[.int .i64 a1_0, .int .i64 a1_1, .int .i64 a1_2] 48 (0, 0)) (by (with_reducible repeat (first | refine blk_drewN ?_ _ | refine blk_drew ?_ | refine blk_alloc ?_ _)); exact BK120.out)) : gb120 ≠ gb122)); have n10_ := Aside0.mk ((by rw [hg]; exact Nat.ne_of_gt (blk_lt (g := gb120) (o := .cells #[.int .i64 a1_0, .int .i64 a1_1, .int .i64 a1_2] 48 (0, 0)) (by (with_reducible repeat (first | refine blk_drewN ?_ _ | refine blk_drew ?_ | refine blk_alloc ?_ _)); exact BK120.out)) : gb122 ≠ gb120)); have n11_ := Aside0.mk ((by rw [hg]; exact Nat.ne_of_lt (blk_lt (g := gb121) (o := .cells #[.int .i64 0, .int .i64 0, .int .i64 0] 48 (0, 0)) (by (with_reducible repeat (first | refine blk_drewN ?_ _ | refine blk_drew ?_ | refine blk_alloc ?_ _)); exact BK121.out)) : gb121 ≠ gb122)); have n12_ := Aside0.mk ((by rw [hg]; exact Nat.ne_of_gt (blk_lt (g := gb121) (o := .cells #[.int .i64 0, .int .i64 0, .int .i64 0] 48 (0, 0)) (by (with_reducible repeat (first | refine blk_drewN ?_ _ | refine blk_drew ?_ | refine blk_alloc ?_ _)); exact BK121.out)) : gb122 ≠ gb121)); clear BK119; clear BK120; clear BK121; clear HB; have BK119 := n0_; have BK120 := n1_; have BK121 := n2_; have HB := n3_; have BK122 := n4_; have GW122 := n5_; have GE122 := n6_; have NB119_122 := n7_; have NB122_119 := n8_; have NB120_122 := n9_; have NB122_120 := n10_; have NB121_122 := n11_; have NB122_121 := n12_; clear n0_ n1_ n2_ n3_ n4_ n5_ n6_ n7_ n8_ n9_ n10_ n11_ n12_; clear hb hbox hg; have hnb13 := NB122_119.out; have hnc13 := NB119_122.out; have hnb14 := NB122_120.out; have hnc14 := NB120_122.out; have hnb15 := NB122_121.out; have hnc15 := NB121_122.out; have hcz16_0 : w12.cell? ⟨gb122, 0, none⟩ = some (.int .i64 0) := (blk_cell BK122.out 0).trans rfl; have hcz16_1 : w12.cell? ⟨gb122, 1, none⟩ = some (.int .i64 0) := (blk_cell BK122.out 1).trans rfl; have hcz16_2 : w12.cell? ⟨gb122, 2, none⟩ = some (.int .i64 0) := (blk_cell BK122.out 2).trans rfl; have hfz16_0 := blk_frozen BK122.out 0; have hfz16_1 := blk_frozen BK122.out 1; have hfz16_2 := blk_frozen BK122.out 2; have hcz17_0 : w12.cell? ⟨gb121, 0, none⟩ = some (.int .i64 0) := (blk_cell BK121.out 0).trans rfl; have hcz17_1 : w12.cell? ⟨gb121, 1, none⟩ = some (.int .i64 0) := (blk_cell BK121.out 1).trans rfl; have hcz17_2 : w12.cell? ⟨gb121, 2, none⟩ = some (.int .i64 0) := (blk_cell BK121.out 2).trans rfl; have hfz17_0 := blk_frozen BK121.out 0; have hfz17_1 := blk_frozen BK121.out 1; have hfz17_2 := blk_frozen BK121.out 2))
  refine bodyPost_ret (results_cell_row rfl _ _ gb121 48 #[.int .i64 (wrap64 ((wrap64 (a0_0 + a1_0)) + (ji3))), .int .i64 (wrap64 ((wrap64 (a0_1 + a1_1)) - (ji3))), .int .i64 (wrap64 ((wrap64 (a0_2 + a1_2)) - (ji3)))] (0, 0) _ rfl (by (with_reducible repeat (first | refine blk_drewN ?_ _ | refine blk_drew ?_ | refine blk_alloc ?_ _)); refine blk_put (cs := #[.int .i64 (wrap64 ((wrap64 (a0_0 + a1_0)) + (ji3))), .int .i64 (wrap64 ((wrap64 (a0_1 + a1_1)) - (ji3))), .int .i64 0]) ?_ 2 _ rfl; (with_reducible repeat (first | refine blk_drewN ?_ _ | refine blk_drew ?_ | refine blk_alloc ?_ _)); refine blk_put (cs := #[.int .i64 (wrap64 ((wrap64 (a0_0 + a1_0)) + (ji3))), .int .i64 0, .int .i64 0]) ?_ 1 _ rfl; (with_reducible repeat (first | refine blk_drewN ?_ _ | refine blk_drew ?_ | refine blk_alloc ?_ _)); refine blk_put (cs := #[.int .i64 0, .int .i64 0, .int .i64 0]) ?_ 0 _ rfl; (with_reducible repeat (first | refine blk_drewN ?_ _ | refine blk_drew ?_ | refine blk_alloc ?_ _)); refine blk_far ?_ NB121_122.out _; (with_reducible repeat (first | refine blk_drewN ?_ _ | refine blk_drew ?_ | refine blk_alloc ?_ _)); refine blk_far ?_ NB121_122.out _; (with_reducible repeat (first | refine blk_drewN ?_ _ | refine blk_drew ?_ | refine blk_alloc ?_ _)); refine blk_far ?_ NB121_122.out _; (with_reducible repeat (first | refine blk_drewN ?_ _ | refine blk_drew ?_ | refine blk_alloc ?_ _)); exact BK121.out) Tryd.underlying48 rfl (by kernel_rfl)) rfl ?_
  exact ⟨by first | rfl | (simp [errW_none, errW_some] <;> rfl) | (simp only [← hji3]; first | rfl | (simp [errW_none, errW_some] <;> rfl)) | (simp [*, errW_none, errW_some] <;> rfl), by repeat (first | (with_reducible first | exact HB.out | apply below_alloc | apply pw_below_drewN | apply below_drew1 | refine below_set ?_ GE119.out | refine below_set ?_ GE120.out | refine below_set ?_ GE121.out | refine below_set ?_ GE122.out) | exact HB.out)⟩
def pack_strength.f (a0_0 : Int) (a0_1 : Int) (a0_2 : Int) : Option (Int) := some (wrap64 ((wrap64 ((wrap64 (10 * a0_0)) + a0_2)) - (wrap64 (40 * a0_1))))
set_option maxHeartbeats 8000000 in
set_option maxRecDepth 100000 in
theorem pack_strength.calls (a0_0 : Int) (a0_1 : Int) (a0_2 : Int) (r : Int) (w : World) (h : pack_strength.f a0_0 a0_1 a0_2 = some r) :
    Calls Tryd.prog 77 #[.agg #[.int .i64 a0_0, .int .i64 a0_1, .int .i64 a0_2]] w fun e w' => e = .returned (.int .i64 r) ∧ Below w.heap.size w w' := by
  have hu48 := Tryd.underlying48
  have HB := Aside0.mk (Below.refl w.heap.size w)
  have H : (some (wrap64 ((wrap64 ((wrap64 (10 * a0_0)) + a0_2)) - (wrap64 (40 * a0_1))))) = some r := h
  clear h
  obtain rfl := Option.some.inj H
  go_enter Tryd.func77, Tryd.ntmps77
  go_wp2_with (first | ((with_reducible refine gate_dst (N := 1) rfl ?_); refine box_event ?hg (N := 1) ?hd (cs := #[.int .i64 a0_0, .int .i64 a0_1, .int .i64 a0_2]) (t := 48) ?hr ?_; (case hd => rfl); (case hg => rfl); (case hr => first | (go_simp; done) | (go_simp; rfl)); intro gb123 hg w2 hbox hb; have n0_ := Aside0.mk (below_step (by repeat (first | (with_reducible first | exact HB.out | apply below_alloc | apply pw_below_drewN | apply below_drew1) | exact HB.out)) hb); have n1_ := Aside0.mk (hbox); have n2_ := Aside0.mk ((by rw [hg]; exact (below_size (by repeat (first | (with_reducible first | exact HB.out | apply below_alloc | apply pw_below_drewN | apply below_drew1) | exact HB.out))) : w.heap.size ≤ gb123)); have n3_ := Aside0.mk ((by rw [hg]; exact (below_size (by repeat (first | (with_reducible first | exact HB.out | apply below_alloc | apply pw_below_drewN | apply below_drew1) | exact HB.out))) : w.heap.size ≤ gb123)); clear HB; have HB := n0_; have BK123 := n1_; have GW123 := n2_; have GE123 := n3_; clear n0_ n1_ n2_ n3_; clear hb hbox hg; have hcz3_0 : w2.cell? ⟨gb123, 0, none⟩ = some (.int .i64 a0_0) := (blk_cell BK123.out 0).trans rfl; have hcz3_1 : w2.cell? ⟨gb123, 1, none⟩ = some (.int .i64 a0_1) := (blk_cell BK123.out 1).trans rfl; have hcz3_2 : w2.cell? ⟨gb123, 2, none⟩ = some (.int .i64 a0_2) := (blk_cell BK123.out 2).trans rfl; have hfz3_0 := blk_frozen BK123.out 0; have hfz3_1 := blk_frozen BK123.out 1; have hfz3_2 := blk_frozen BK123.out 2))
  go_ret
  exact ⟨by first | rfl | (simp [errW_none, errW_some] <;> rfl) | (simp [*, errW_none, errW_some] <;> rfl), by repeat (first | (with_reducible first | exact HB.out | apply below_alloc | apply pw_below_drewN | apply below_drew1 | refine below_set ?_ GE123.out) | exact HB.out)⟩
end Go.Proofs.YtpldcikmlpegpaaDoor.PB
end
section
namespace Go.Proofs.YtpldcikmlpegpaaDoor.PB
open Go.RowKit Go.Proofs.YtpldcikmlpegpaaDoor.Col Go.Proofs.YtpldcikmlpegpaaDoorW.PrintWords Go.Proofs.YtpldcikmlpegpaaDoorW.PrintLast Go.Proofs.YtpldcikmlpegpaaDoorW.PrintMore
attribute [local go_sem] max2_int min2_int max_two min_two
def joinW (a b : S48) : S48 :=
  ⟨wrap64 ((wrap64 (a.f0 + b.f0)) + (mn (wrap64 (a.f1 + b.f1)) (wrap64 (a.f2 + b.f2)))), wrap64 ((wrap64 (a.f1 + b.f1)) - (mn (wrap64 (a.f1 + b.f1)) (wrap64 (a.f2 + b.f2)))), wrap64 ((wrap64 (a.f2 + b.f2)) - (mn (wrap64 (a.f1 + b.f1)) (wrap64 (a.f2 + b.f2))))⟩
theorem joined_calls (a b : S48) (w : World) :
    Calls Tryd.prog 69 #[.agg #[.int .i64 a.f0, .int .i64 a.f1, .int .i64 a.f2], .agg #[.int .i64 b.f0, .int .i64 b.f1, .int .i64 b.f2]] w fun e w' => e = .returned (.agg #[.int .i64 (joinW a b).f0, .int .i64 (joinW a b).f1, .int .i64 (joinW a b).f2]) ∧ Below w.heap.size w w' :=
  pack_joined.calls a.f0 a.f1 a.f2 b.f0 b.f1 b.f2 _ _ _ w rfl
def pairW (xs : List S48) (i : Nat) : Int := wrap64 ((xs.getD i z48).f0 + (xs.getD (i + 1) z48).f0)
def leastW (xs : List S48) : Nat → Nat → Nat → Nat
  | 0, _, a => a
  | d + 1, i, a => leastW xs d (i + 1) (if pairW xs i < pairW xs a then i else a)
def joinOnce (xs : List S48) : List S48 :=
  let a := leastW xs (xs.length - 1) 0 0
  let ys := xs.set a (joinW (xs.getD a z48) (xs.getD (a + 1) z48))
  ys.take (a + 1) ++ ys.drop (a + 2)
def joinsW (n : Int) : Nat → List S48 → List S48
  | 0, xs => xs
  | k + 1, xs => if n < (xs.length : Int) then joinsW n k (joinOnce xs) else xs
def pack_Joined.f (l : List S48) (n : Int) : Option (List S48 × Int) :=
  (pack_Check.f 200 l).bind fun e => if e = 0 then (if 1 ≤ n ∧ n ≤ 64 then some (joinsW n l.length l, 0) else some ([], 1)) else some ([], e)
theorem wrap_small (x : Int) (h0 : -9223372036854775808 ≤ x) (h1 : x ≤ 9223372036854775807) : wrap64 x = x := by
  unfold wrap64
  omega
theorem drewN_two (w : World) (a b : Nat) : (w.drewN a).drewN b = w.drewN (a + b) := by
  simp [World.drewN, Nat.add_assoc]
theorem leastW_lt (xs : List S48) (d : Nat) : ∀ (i a : Nat), i + d + 1 ≤ xs.length → a + 1 < xs.length → leastW xs d i a + 1 < xs.length := by
  induction d with
  | zero => intro i a _ h; exact h
  | succ d ih =>
    intro i a h1 h2
    simp only [leastW]
    refine ih _ _ (by omega) ?_
    split <;> omega
set_option maxRecDepth 100000 in
set_option maxHeartbeats 4000000 in
theorem pack_Joined.calls (A0_0 : Option Addr) (c0_0 : Nat) (l0_0 : List (S48)) (a1 : Int) (r1 : List (S48)) (r2 : Int) (w : World) (hr0_0 : Kd.C k48 w A0_0 l0_0.length l0_0) (hc0_0 : l0_0.length ≤ c0_0) (h : pack_Joined.f l0_0 a1 = some (r1, r2)) :
    Calls Tryd.prog 29 #[.agg #[.slice A0_0 l0_0.length c0_0], .int .i64 a1] w fun e w' => ∃ v0_ : Value, e = .returned (.tuple #[.agg #[v0_], .int .i64 r2]) ∧ Kd.R k48 48 w' w.heap.size (fun _ => True) v0_ r1 ∧ Below w.heap.size w w' := by
  have hu24 := Tryd.underlying24
  have hu48 := Tryd.underlying48
  have HR := Aside0.mk hr0_0
  have HC := Aside0.mk hc0_0
  clear hr0_0 hc0_0
  unfold pack_Joined.f at h
  replace h := Option.bind_eq_some_iff.mp h
  obtain ⟨e1, E1, h⟩ := h
  have HE1 := Aside0.mk E1
  have HH := Aside0.mk h
  clear E1 h
  go_enter Tryd.func29, Tryd.ntmps29
  go_upto_region 1 with (fail)
  obtain ⟨B, hB⟩ : ∃ B, w.heap.size = B := ⟨_, rfl⟩
  obtain ⟨V1, hV1⟩ : ∃ W1, w.alloc (.cells #[.slice A0_0 l0_0.length c0_0] 24 (0, 0)) = W1 := ⟨_, rfl⟩
  obtain ⟨W1, hW1⟩ : ∃ W1, V1.alloc (.cells #[.slice none 0 0] 24 (0, 0)) = W1 := ⟨_, rfl⟩
  have s1 : V1.heap.size = B + 1 := by rw [← hV1, ← hB]; simp
  have s3 : W1.heap.size = B + 2 := by rw [← hW1]; simp [s1]
  have b1 : Below B w V1 := by rw [← hV1, ← hB]; exact (Below.refl _ _).alloc (Nat.le_refl _) _
  have b3 : Below B w W1 := by rw [← hW1]; exact b1.alloc (by omega) _
  have p0 : W1.heap[B]? = some (.cells #[.slice A0_0 l0_0.length c0_0] 24 (0, 0)) := by rw [← hW1]; refine blk_alloc ?_ _; rw [← hV1, ← hB]; exact blk_new _ _
  have p2 : W1.heap[B + 1]? = some (.cells #[.slice none 0 0] 24 (0, 0)) := by rw [← hW1, ← s1]; exact blk_new _ _
  rw [hV1, hW1, hB]
  have K : Aside0 (∀ wX : World, Below W1.heap.size W1 wX → wX.heap[B]? = some (.cells #[.slice A0_0 l0_0.length c0_0] 24 (0, 0)) ∧ wX.heap[B + 1]? = some (.cells #[.slice none 0 0] 24 (0, 0))) :=
    ⟨fun wX hb => ⟨blk_below p0 hb, blk_below p2 hb⟩⟩
  have HS3 := Aside0.mk s3
  have HB3 := Aside0.mk b3
  have HBq := Aside0.mk hB
  have F : Aside0 (∀ (wX : World) (v : Value), Below W1.heap.size W1 wX → Below w.heap.size w (wX.setCell ⟨B + 1, 0, none⟩ v)) :=
    ⟨fun wX v hb => by rw [HBq.out]; exact (HB3.out.trans (hb.mono (by rw [HS3.out]; omega))).setCell (p := ⟨B + 1, 0, none⟩) (by show B ≤ B + 1; omega) v⟩
  have q0 : W1.cell? ⟨B, 0, none⟩ = some (.slice A0_0 l0_0.length c0_0) := (blk_cell p0 0).trans rfl
  have HR1 : Aside0 (Kd.C k48 W1 A0_0 l0_0.length l0_0) := ⟨Kd.C_below HR.out (by rw [HBq.out]; exact HB3.out)⟩
  clear hV1 hW1 s1 s3 b1 b3 p0 p2 hB
  go_upto_if 13 with (first | (go_at_call 25; refine (pack_Check.calls 200 A0_0 c0_0 l0_0 e1 _ HR1.out HC.out HE1.out).mono ?_; rintro e w7 ⟨rfl, hb⟩; have HB7 := Aside0.mk hb; clear hb q0))
  by_cases h1 : e1 = 0
  · have z0 : (e1 != 0) = false := by simp [h1]
    have h2 := HH.out
    rw [if_pos h1] at h2
    by_cases hn : 1 ≤ a1 ∧ a1 ≤ 64
    · rw [if_pos hn] at h2
      simp only [Option.some.injEq, Prod.mk.injEq] at h2
      obtain ⟨h3, rfl⟩ := h2
      have H3 := Aside0.mk h3
      have HN := Aside0.mk hn
      have HL : Aside0 (l0_0.length ≤ 64) := ⟨by
        have := HE1.out
        rw [h1] at this
        unfold pack_Check.f at this
        split at this
        · simp at this
        · omega⟩
      have hpf : Aside0 (pack_from.f a1 1 64 = some true) := ⟨by unfold pack_from.f; rw [if_pos hn.1]; simp [hn.2]⟩
      clear h3 hn h1
      obtain ⟨k0, k2⟩ := K.out _ HB7.out
      have q7 : w7.cell? ⟨B, 0, none⟩ = some (.slice A0_0 l0_0.length c0_0) := (blk_cell k0 0).trans rfl
      clear k0 k2
      go_upto_region 6 with (first | (go_at_call 67; refine (pack_from.calls a1 1 64 true _ hpf.out).mono ?_; rintro e w8 ⟨rfl, ⟨nd, rfl⟩⟩))
      have HB8 := Aside0.mk (pw_below_drewN HB7.out nd)
      have q8 : (w7.drewN nd).cell? ⟨B, 0, none⟩ = some (.slice A0_0 l0_0.length c0_0) := q7
      generalize w7.drewN nd = w8 at HB8 q8 ⊢
      clear q7
      go_wp2_with (first | (go_at_call 68; refine (clone_calls A0_0 c0_0 l0_0 _ (Kd.C_below HR1.out HB8.out) HL.out).mono ?_; rintro e w9 ⟨v, rfl, hO, hb⟩; obtain ⟨A2, c2, rfl⟩ := Kd.R_slice hO; have HO := Aside0.mk (Kd.R_lower hO HB8.out.size); have HB9 := Aside0.mk (below_step HB8.out hb); clear hO hb q8))
      go_loopg [7] l0_0.length (fun dq v7 w' => ∃ (xs : List S48) (A : Option Addr) (c : Nat), v7 = .slice A xs.length c ∧ dq = xs.length ∧ xs.length ≤ 64 ∧ Aside0 (joinsW a1 dq xs = r1) ∧ Aside0 (Kd.R k48 48 w' W1.heap.size (fun _ => True) (.slice A xs.length c) xs) ∧ Aside0 (Below W1.heap.size W1 w'))
      case atStart => exact ⟨l0_0, A2, c2, rfl, rfl, HL.out, H3, HO, HB9⟩
      case round =>
        obtain ⟨xs, A, c, rfl, hdq, hx64, HE, HX, HBx⟩ := hrel
        by_cases hgt : a1 < (xs.length : Int)
        · have t1 : decide (a1 < (xs.length : Int)) = true := decide_eq_true hgt
          have hx2 : 2 ≤ xs.length := by have := HN.out; omega
          obtain ⟨g, cap, hv, hg, hrow⟩ : ∃ g cap, (.slice A xs.length c : Value) = .slice (some ⟨g, 0, none⟩) xs.length cap ∧ W1.heap.size ≤ g ∧ Row wr g cap xs := by
            rcases Row.of_R HX.out with ⟨_, h0⟩ | h0
            · rw [h0] at hx2; simp at hx2
            · exact h0
          injection hv with hA _ hc
          subst hA hc
          have HRW := Aside0.mk hrow
          have HG := Aside0.mk hg
          have hcap : xs.length ≤ c := hrow.le
          clear hrow hgt
          go_wp2
          obtain ⟨wo, rfl⟩ : ∃ wo : World, wo = wr := ⟨_, rfl⟩
          obtain ⟨gko, hgko⟩ : ∃ k, k = gk := ⟨_, rfl⟩
          rw [← hgko] at hdq HE
          have HGK := Aside0.mk hgko
          clear hgko
          obtain ⟨n, hn⟩ : ∃ n, xs.length = n := ⟨_, rfl⟩
          rw [hn] at hx2 hx64 hcap ⊢
          have HNN := Aside0.mk hn
          clear hn hg
          go_loopg [8, 30] (n - 1) (fun dq v8 v30 w' => ∃ (a i m : Nat), v8 = .int .i64 a ∧ v30 = .int .i64 i ∧ dq = n - 1 - i ∧ i ≤ n - 1 ∧ a + 1 < n ∧ Aside0 (leastW xs dq i a = leastW xs (n - 1) 0 0) ∧ Aside0 (w' = wo.drewN m))
          case atStart => exact ⟨0, 0, 0, rfl, rfl, rfl, Nat.zero_le _, by omega, ⟨rfl⟩, ⟨rfl⟩⟩
          case round =>
            obtain ⟨a, i, m, rfl, rfl, hdi, hi, ha, HI, HM⟩ := hrel
            obtain rfl := HM.out
            by_cases hlt : (i : Int) < (n : Int) - 1
            · have t2 : decide ((i : Int) < (n : Int) - 1) = true := decide_eq_true hlt
              have c1 := HRW.out.ice i (by rw [HNN.out]; omega)
              have c2' := HRW.out.ice (i + 1) (by rw [HNN.out]; omega)
              have c3 := HRW.out.ice a (by rw [HNN.out]; omega)
              have c4 := HRW.out.ice (a + 1) (by rw [HNN.out]; omega)
              obtain ⟨x1, hx1⟩ : ∃ x, (xs.getD i z48).f0 = x := ⟨_, rfl⟩
              obtain ⟨x2, hx2'⟩ : ∃ x, (xs.getD (i + 1) z48).f0 = x := ⟨_, rfl⟩
              obtain ⟨x3, hx3⟩ : ∃ x, (xs.getD a z48).f0 = x := ⟨_, rfl⟩
              obtain ⟨x4, hx4⟩ : ∃ x, (xs.getD (a + 1) z48).f0 = x := ⟨_, rfl⟩
              rw [hx1] at c1
              rw [hx2'] at c2'
              rw [hx3] at c3
              rw [hx4] at c4
              have HP1 : Aside0 (pairW xs i = wrap64 (x1 + x2)) := ⟨by simp only [pairW, hx1, hx2']⟩
              have HP2 : Aside0 (pairW xs a = wrap64 (x3 + x4)) := ⟨by simp only [pairW, hx3, hx4]⟩
              have i0 : (0 : Int) ≤ (i : Int) := by omega
              have i1 : (i : Int) < (n : Int) := by omega
              have i2 : (0 : Int) ≤ (i : Int) + 1 := by omega
              have i3 : (i : Int) + 1 < (n : Int) := by omega
              have a0 : (0 : Int) ≤ (a : Int) := by omega
              have a1' : (a : Int) < (n : Int) := by omega
              have a2 : (0 : Int) ≤ (a : Int) + 1 := by omega
              have a3 : (a : Int) + 1 < (n : Int) := by omega
              have e1' : IntKind.i64.wrap ((i : Int) + 1) = (i : Int) + 1 := by have := wrap_small ((i : Int) + 1) (by omega) (by omega); simpa [i64_w] using this
              have e2 : IntKind.i64.wrap ((a : Int) + 1) = (a : Int) + 1 := by have := wrap_small ((a : Int) + 1) (by omega) (by omega); simpa [i64_w] using this
              have e3 : ((i : Int) + 1).toNat = i + 1 := by omega
              have e4 : ((a : Int) + 1).toNat = a + 1 := by omega
              clear hx1 hx2' hx3 hx4
              go_upto_region 12 with (fail)
              go_quiet (fail)
              (try simp only [i64_w])
              by_cases hp : wrap64 (x1 + x2) < wrap64 (x3 + x4)
              · have z1 : decide (wrap64 (x1 + x2) < wrap64 (x3 + x4)) = true := decide_eq_true hp
                have HPP : Aside0 (pairW xs i < pairW xs a) := ⟨by rw [HP1.out, HP2.out]; exact hp⟩
                rw [z1]
                clear hp z1 c1 c2' c3 c4 e1' e2 e3 e4
                go_wp2
                go_roundg (n - 1 - (i + 1))
                case measure => omega
                case rel =>
                  refine ⟨i, i + 1, m + nq, rfl, by go_num, rfl, by omega, by omega, ⟨?_⟩, ⟨by first | rfl | exact drewN_two _ _ _⟩⟩
                  have e : n - 1 - i = (n - 1 - (i + 1)) + 1 := by omega
                  rw [← HI.out, hdi, e]
                  simp only [leastW, if_pos HPP.out]
              · have z1 : decide (wrap64 (x1 + x2) < wrap64 (x3 + x4)) = false := decide_eq_false hp
                have HPP : Aside0 (¬ pairW xs i < pairW xs a) := ⟨by rw [HP1.out, HP2.out]; exact hp⟩
                rw [z1]
                clear hp z1 c1 c2' c3 c4 e1' e2 e3 e4
                go_wp2
                go_roundg (n - 1 - (i + 1))
                case measure => omega
                case rel =>
                  refine ⟨a, i + 1, m + nq, rfl, by go_num, rfl, by omega, by omega, ⟨?_⟩, ⟨by first | rfl | exact drewN_two _ _ _⟩⟩
                  have e : n - 1 - i = (n - 1 - (i + 1)) + 1 := by omega
                  rw [← HI.out, hdi, e]
                  simp only [leastW, if_neg (show ¬ pairW xs i < pairW xs a by have := HPP.out; omega)]
            · have t2 : decide ((i : Int) < (n : Int) - 1) = false := decide_eq_false hlt
              have HA : Aside0 (leastW xs (xs.length - 1) 0 0 = a) := ⟨by
                have h5 := HI.out
                have e : gk = 0 := by omega
                rw [e] at h5
                rw [HNN.out, ← h5]
                rfl⟩
              obtain ⟨W5, hW5⟩ : ∃ W5, wo.drewN m = W5 := ⟨_, rfl⟩
              have HRX : Aside0 (Row W5 g c xs) := ⟨by rw [← hW5]; exact HRW.out.drewN m⟩
              have HBX : Aside0 (Below W1.heap.size W1 W5) := ⟨by rw [← hW5]; exact pw_below_drewN HBx.out m⟩
              rw [hW5]
              clear hW5 hlt
              have x0' := HRX.out.ice a (by rw [HNN.out]; omega)
              have x1' := HRX.out.wet a (by rw [HNN.out]; omega)
              have x2' := HRX.out.cold a (by rw [HNN.out]; omega)
              have y0' := HRX.out.ice (a + 1) (by rw [HNN.out]; omega)
              have y1' := HRX.out.wet (a + 1) (by rw [HNN.out]; omega)
              have y2' := HRX.out.cold (a + 1) (by rw [HNN.out]; omega)
              obtain ⟨x, hx⟩ : ∃ x, xs.getD a z48 = x := ⟨_, rfl⟩
              obtain ⟨y, hy⟩ : ∃ x, xs.getD (a + 1) z48 = x := ⟨_, rfl⟩
              rw [hx] at x0' x1' x2'
              rw [hy] at y0' y1' y2'
              have HXX := Aside0.mk hx
              have HYY := Aside0.mk hy
              have a0 : (0 : Int) ≤ (a : Int) := by omega
              have a1' : (a : Int) < (n : Int) := by omega
              have a2 : (0 : Int) ≤ (a : Int) + 1 := by omega
              have a3 : (a : Int) + 1 < (n : Int) := by omega
              have e2 : IntKind.i64.wrap ((a : Int) + 1) = (a : Int) + 1 := by have := wrap_small ((a : Int) + 1) (by omega) (by omega); simpa [i64_w] using this
              have e4 : ((a : Int) + 1).toNat = a + 1 := by omega
              have hf := HRX.out.free
              clear hx hy
              go_upto_region 15 with (fail)
              go_region_with (go_at_call 69; (with_reducible refine (joined_calls x y _).mono ?_); rintro e w6 ⟨rfl, hb⟩; have HB6 : Aside0 (Below W5.heap.size W5 w6) := ⟨Below.trans ((Below.refl _ _).drew) hb⟩; have hf6 := (HRX.out.below HB6.out).free; have x06 := pw_cell_below HB6.out x0'; have x16 := pw_cell_below HB6.out x1'; have x26 := pw_cell_below HB6.out x2'; clear hb)
              all_goals
                have HR7 := (HRX.out.below HB6.out).put a (by rw [HNN.out]; omega) (joinW x y).f0 (joinW x y).f1 (joinW x y).f2
                have HK7 : KeepG g w6 (((w6.setCell ⟨g, a * 3, none⟩ (.int .i64 (joinW x y).f0)).setCell ⟨g, a * 3 + 1, none⟩ (.int .i64 (joinW x y).f1)).setCell ⟨g, a * 3 + 2, none⟩ (.int .i64 (joinW x y).f2)) := ((KeepG.set _ _ _ _).trans (KeepG.set _ _ _ _)).trans (KeepG.set _ _ _ _)
                generalize ((w6.setCell ⟨g, a * 3, none⟩ (.int .i64 (joinW x y).f0)).setCell ⟨g, a * 3 + 1, none⟩ (.int .i64 (joinW x y).f1)).setCell ⟨g, a * 3 + 2, none⟩ (.int .i64 (joinW x y).f2) = W7 at HR7 HK7 ⊢
                obtain ⟨ys, hys⟩ : ∃ ys, xs.set a ⟨(joinW x y).f0, (joinW x y).f1, (joinW x y).f2⟩ = ys := ⟨_, rfl⟩
                rw [hys] at HR7
                have HY : Aside0 (ys.length = n) := ⟨by rw [← hys, List.length_set]; exact HNN.out⟩
                have HJ : Aside0 (joinOnce xs = ys.take (a + 1) ++ ys.drop (a + 2)) := ⟨by
                  simp only [joinOnce, HA.out, HXX.out, HYY.out]
                  rw [← hys]⟩
                have HRY := Aside0.mk HR7
                have HB7' : Aside0 (Below W1.heap.size W1 W7) := ⟨HK7.below (below_step HBX.out HB6.out) HG.out (below_step HBX.out HB6.out).size⟩
                clear HR7 HK7 hys x0' x1' x2' y0' y1' y2' hf hf6 x06 x16 x26 e2 e4
                go_wp2_with (first | (go_at_call 70; refine (delete_calls' g c (a + 1) (a + 2) n _ _ ys _ HY.out (by omega) (by omega) HRY.out (by omega) (by omega)).mono ?_; rintro e w10 ⟨rfl, hR10, hK10⟩; have HR10 := Aside0.mk hR10; have HB10 : Aside0 (Below W1.heap.size W1 w10) := ⟨hK10.below HB7'.out HG.out HB7'.out.size⟩; clear hR10 hK10))
                obtain rfl := HGK.out
                go_roundg (n - 1)
                case measure => have := HNN.out; omega
                case rel =>
                  have hl : (joinOnce xs).length = n - 1 := by rw [HJ.out]; have := HY.out; simp; omega
                  have el : a + 1 + (n - (a + 2)) = n - 1 := by omega
                  refine ⟨joinOnce xs, some ⟨g, 0, none⟩, c, by rw [hl, el], hl.symm, by omega, ⟨?_⟩, ⟨?_⟩, HB10⟩
                  · have h5 := HE.out
                    have e5 : gko = (n - 1) + 1 := by have := HNN.out; omega
                    rw [e5] at h5
                    have h6 : a1 < (xs.length : Int) := of_decide_eq_true t1
                    simp only [joinsW, if_pos h6] at h5
                    exact h5
                  · have h7 := HR10.out
                    rw [← HJ.out] at h7
                    exact h7.to_R HG.out
        · have t1 : decide (a1 < (xs.length : Int)) = false := decide_eq_false hgt
          have HE' : Aside0 (xs = r1) := ⟨by
            have := HE.out
            cases gk with
            | zero => exact this
            | succ k => simpa [joinsW, hgt] using this⟩
          clear hgt
          obtain ⟨k0, k2⟩ := K.out _ HBx.out
          have HK2 := Aside0.mk k2
          have c4 : wr.cell? ⟨B + 1, 0, none⟩ = some (.slice none 0 0) := (blk_cell k2 0).trans rfl
          have f4 := blk_frozen k2 0
          clear k0 k2
          go_wp2
          refine bodyPost_ret (results_ct rfl _ _ (B + 1) 24 #[.slice A xs.length c] (0, 0) _ rfl (blk_put (cs := #[.slice none 0 0]) HK2.out 0 _ rfl) Tryd.underlying24 rfl (by kernel_rfl)) rfl ?_
          have hR := Kd.R_lower (R_set_low (i := 0) HX.out (B := B + 1) (by have := HS3.out; omega) (.slice A xs.length c)) (show w.heap.size ≤ B + 1 by have := HBq.out; omega)
          exact ⟨_, rfl, by rw [← HE'.out]; exact hR, F.out _ _ HBx.out⟩
    · rw [if_neg hn] at h2
      simp only [Option.some.injEq, Prod.mk.injEq] at h2
      obtain ⟨rfl, rfl⟩ := h2
      have hpf : Aside0 (pack_from.f a1 1 64 = some false) := ⟨by
        unfold pack_from.f
        split
        · rename_i h5
          simp only [Option.some.injEq, decide_eq_false_iff_not]
          intro h6
          exact hn ⟨h5, h6⟩
        · rfl⟩
      clear h1 hn
      obtain ⟨k0, k2⟩ := K.out _ HB7.out
      have HK2 := Aside0.mk k2
      have c4 : w7.cell? ⟨B + 1, 0, none⟩ = some (.slice none 0 0) := (blk_cell k2 0).trans rfl
      have f4 := blk_frozen k2 0
      clear k0 k2
      go_wp2_with (first | (go_at_call 67; refine (pack_from.calls a1 1 64 false _ hpf.out).mono ?_; rintro e w8 ⟨rfl, ⟨nd, rfl⟩⟩))
      refine bodyPost_ret (results_ct rfl _ _ (B + 1) 24 #[.slice none 0 0] (0, 0) _ rfl (blk_put (cs := #[.slice none 0 0]) (blk_drewN HK2.out _) 0 _ rfl) Tryd.underlying24 rfl (by kernel_rfl)) rfl ?_
      exact ⟨_, rfl, Kd.R_nil _ _ _ _ _, F.out _ _ (pw_below_drewN HB7.out _)⟩
  · have z0 : (e1 != 0) = true := by simp [h1]
    have h2 := HH.out
    rw [if_neg h1] at h2
    simp only [Option.some.injEq, Prod.mk.injEq] at h2
    obtain ⟨rfl, rfl⟩ := h2
    clear h1
    obtain ⟨k0, k2⟩ := K.out _ HB7.out
    have HK2 := Aside0.mk k2
    have c4 : w7.cell? ⟨B + 1, 0, none⟩ = some (.slice none 0 0) := (blk_cell k2 0).trans rfl
    have f4 := blk_frozen k2 0
    clear k0 k2
    go_wp2
    refine bodyPost_ret (results_ct rfl _ _ (B + 1) 24 #[.slice none 0 0] (0, 0) _ rfl (blk_put (cs := #[.slice none 0 0]) HK2.out 0 _ rfl) Tryd.underlying24 rfl (by kernel_rfl)) rfl ?_
    exact ⟨_, rfl, Kd.R_nil _ _ _ _ _, F.out _ _ HB7.out⟩
end Go.Proofs.YtpldcikmlpegpaaDoor.PB
end
section
namespace Go.Proofs.YtpldcikmlpegpaaDoor.PB
open Go.RowKit Go.Proofs.YtpldcikmlpegpaaDoorW.PrintWords Go.Proofs.YtpldcikmlpegpaaDoorW.PrintLast Go.Proofs.YtpldcikmlpegpaaDoorW.PrintMore
attribute [local go_sem] max2_int min2_int max_two min_two max_three min_three max_four min_four   -- for this text's walks alone
set_option linter.unusedVariables false
set_option linter.unusedSimpArgs false
theorem eqA48 (d : Nat) (w : World) (x0 y0 : Int) (x1 y1 : Int) (x2 y2 : Int) :
    (Op.equalIn (d + 2) 48 (.agg #[.int .i64 x0, .int .i64 x1, .int .i64 x2]) (.agg #[.int .i64 y0, .int .i64 y1, .int .i64 y2])).run Tryd.prog w = .ok (x0 == y0 && (x1 == y1 && (x2 == y2))) w := by
  refine eqA_of Tryd.underlying48 (by kernel_rfl) ?_
  refine eqf_cons (by rfl) (by go_simp; rfl) (by go_simp; rfl) (by go_simp) ?_
  refine eqf_cons (by rfl) (by go_simp; rfl) (by go_simp; rfl) (by go_simp) ?_
  exact eqf_last (by rfl) (by go_simp; rfl) (by go_simp; rfl) (by go_simp)
end Go.Proofs.YtpldcikmlpegpaaDoor.PB
end
section
namespace Go.Proofs.YtpldcikmlpegpaaDoor.PB
open Go.RowKit Go.Proofs.YtpldcikmlpegpaaDoorW.PrintWords Go.Proofs.YtpldcikmlpegpaaDoorW.PrintLast Go.Proofs.YtpldcikmlpegpaaDoorW.PrintMore
attribute [local go_sem] max2_int min2_int max_two min_two max_three min_three max_four min_four   -- for this text's walks alone
set_option linter.unusedVariables false
set_option linter.unusedSimpArgs false
attribute [local go_sem high] eqA48
def snowlineref02_Same.l0 : Nat → Int → List (S48) → List (S48) → Option (Bool)
  | 0, _, _, _ => none
  | k + 1, x5, x129000, x130000 => if x5 < (x129000.length : Int) then (if 0 ≤ x5 then (if x5 < (x130000.length : Int) then (if (!(((rd_T48 x129000 x5).f0) == ((rd_T48 x130000 x5).f0)) || (!(((rd_T48 x129000 x5).f1) == ((rd_T48 x130000 x5).f1)) || (!(((rd_T48 x129000 x5).f2) == ((rd_T48 x130000 x5).f2))))) = true then (some false) else (snowlineref02_Same.l0 k (wrap64 (x5 + 1)) x129000 x130000)) else (none)) else (none)) else (some true)
def snowlineref02_Same.f (k : Nat) (l0_0 : List (S48)) (l1_0 : List (S48)) : Option (Bool) := if (l0_0.length : Int) = (l1_0.length : Int) then (snowlineref02_Same.l0 k 0 l0_0 l1_0) else (some false)
set_option maxHeartbeats 8000000 in
set_option maxRecDepth 100000 in
theorem snowlineref02_Same.calls (k : Nat) (A0_0 : Option Addr) (c0_0 : Nat) (l0_0 : List (S48)) (A1_0 : Option Addr) (c1_0 : Nat) (l1_0 : List (S48)) (r : Bool) (w : World) (hr0_0 : Kd.C k48 w A0_0 l0_0.length l0_0) (hc0_0 : l0_0.length ≤ c0_0) (hr1_0 : Kd.C k48 w A1_0 l1_0.length l1_0) (hc1_0 : l1_0.length ≤ c1_0) (h : snowlineref02_Same.f k l0_0 l1_0 = some r) :
    Calls Tryd.prog 23 #[.agg #[.slice A0_0 l0_0.length c0_0], .agg #[.slice A1_0 l1_0.length c1_0]] w fun e w' => e = .returned (.bool r) ∧ Below w.heap.size w w' := by
  have hu24 := Tryd.underlying24
  have hu48 := Tryd.underlying48
  have HR0_0 := Aside0.mk hr0_0
  have HC0_0 := Aside0.mk hc0_0
  clear hr0_0 hc0_0
  have HR1_0 := Aside0.mk hr1_0
  have HC1_0 := Aside0.mk hc1_0
  clear hr1_0 hc1_0
  have HB := Aside0.mk (Below.refl w.heap.size w)
  have H : (if (l0_0.length : Int) = (l1_0.length : Int) then (snowlineref02_Same.l0 k 0 l0_0 l1_0) else (some false)) = some r := h
  clear h
  by_cases c3 : (l0_0.length : Int) = (l1_0.length : Int)
  · rw [if_pos c3] at H
    have c3b0 : ((l0_0.length : Int) == (l1_0.length : Int)) = true := beq_iff_eq.mpr c3
    have c3b1 : ((l0_0.length : Int) != (l1_0.length : Int)) = false := bne_eq_false_iff_eq.mpr c3
    have c3b2 : (l0_0.length == l1_0.length) = true := by first | simpa using c3 | (simp at c3 ⊢; omega)
    clear c3
    have H' := Aside0.mk H
    clear H
    go_enter Tryd.func23, Tryd.ntmps23
    go_wp2_with (first | ((with_reducible refine gate_dst (N := 2) rfl ?_); refine box_event ?hg (N := 2) ?hd (cs := #[.slice A0_0 l0_0.length c0_0]) (t := 24) ?hr ?_; (case hd => rfl); (case hg => rfl); (case hr => first | (go_simp; done) | (go_simp; rfl)); intro gb128 hg w4 hbox hb; have n0_ := Aside0.mk (below_step (by repeat (first | (with_reducible first | exact HB.out | apply below_alloc | apply pw_below_drewN | apply below_drew1) | exact HB.out)) hb); have n1_ := Aside0.mk (hbox); have n2_ := Aside0.mk ((by rw [hg]; exact (below_size (by repeat (first | (with_reducible first | exact HB.out | apply below_alloc | apply pw_below_drewN | apply below_drew1) | exact HB.out))) : w.heap.size ≤ gb128)); have n3_ := Aside0.mk ((by rw [hg]; exact (below_size (by repeat (first | (with_reducible first | exact HB.out | apply below_alloc | apply pw_below_drewN | apply below_drew1) | exact HB.out))) : w.heap.size ≤ gb128)); clear HB; have HB := n0_; have BK128 := n1_; have GW128 := n2_; have GE128 := n3_; clear n0_ n1_ n2_ n3_; clear hb hbox hg) | ((with_reducible refine gate_dst (N := 3) rfl ?_); refine box_event ?hg (N := 3) ?hd (cs := #[.slice A1_0 l1_0.length c1_0]) (t := 24) ?hr ?_; (case hd => rfl); (case hg => rfl); (case hr => first | (go_simp; done) | (go_simp; rfl)); intro gb129 hg w5 hbox hb; have n0_ := Aside0.mk (blk_below (g := gb128) (o := .cells #[.slice A0_0 l0_0.length c0_0] 24 (0, 0)) (by (with_reducible repeat (first | refine blk_drewN ?_ _ | refine blk_drew ?_ | refine blk_alloc ?_ _)); exact BK128.out) hb); have n1_ := Aside0.mk (below_step (by repeat (first | (with_reducible first | exact HB.out | apply below_alloc | apply pw_below_drewN | apply below_drew1 | refine below_set ?_ GE128.out) | exact HB.out)) hb); have n2_ := Aside0.mk (hbox); have n3_ := Aside0.mk ((by rw [hg]; exact (below_size (by repeat (first | (with_reducible first | exact HB.out | apply below_alloc | apply pw_below_drewN | apply below_drew1 | refine below_set ?_ GE128.out) | exact HB.out))) : w.heap.size ≤ gb129)); have n4_ := Aside0.mk ((by rw [hg]; exact (below_size (by repeat (first | (with_reducible first | exact HB.out | apply below_alloc | apply pw_below_drewN | apply below_drew1 | refine below_set ?_ GE128.out) | exact HB.out))) : w.heap.size ≤ gb129)); have n5_ := Aside0.mk ((by rw [hg]; exact Nat.ne_of_lt (blk_lt (g := gb128) (o := .cells #[.slice A0_0 l0_0.length c0_0] 24 (0, 0)) (by (with_reducible repeat (first | refine blk_drewN ?_ _ | refine blk_drew ?_ | refine blk_alloc ?_ _)); exact BK128.out)) : gb128 ≠ gb129)); have n6_ := Aside0.mk ((by rw [hg]; exact Nat.ne_of_gt (blk_lt (g := gb128) (o := .cells #[.slice A0_0 l0_0.length c0_0] 24 (0, 0)) (by (with_reducible repeat (first | refine blk_drewN ?_ _ | refine blk_drew ?_ | refine blk_alloc ?_ _)); exact BK128.out)) : gb129 ≠ gb128)); clear BK128; clear HB; have BK128 := n0_; have HB := n1_; have BK129 := n2_; have GW129 := n3_; have GE129 := n4_; have NB128_129 := n5_; have NB129_128 := n6_; clear n0_ n1_ n2_ n3_ n4_ n5_ n6_; clear hb hbox hg; have hnb6 := NB128_129.out; have hnc6 := NB129_128.out; have hcz7_0 : w5.cell? ⟨gb128, 0, none⟩ = some (.slice A0_0 l0_0.length c0_0) := (blk_cell BK128.out 0).trans rfl; have hfz7_0 := blk_frozen BK128.out 0; have hcz8_0 : w5.cell? ⟨gb129, 0, none⟩ = some (.slice A1_0 l1_0.length c1_0) := (blk_cell BK129.out 0).trans rfl; have hfz8_0 := blk_frozen BK129.out 0))
    repeat (go_quiet (first | ((with_reducible refine gate_dst (N := 2) rfl ?_); refine box_event ?hg (N := 2) ?hd (cs := #[.slice A0_0 l0_0.length c0_0]) (t := 24) ?hr ?_; (case hd => rfl); (case hg => rfl); (case hr => first | (go_simp; done) | (go_simp; rfl)); intro gb128 hg w4 hbox hb; have n0_ := Aside0.mk (below_step (by repeat (first | (with_reducible first | exact HB.out | apply below_alloc | apply pw_below_drewN | apply below_drew1) | exact HB.out)) hb); have n1_ := Aside0.mk (hbox); have n2_ := Aside0.mk ((by rw [hg]; exact (below_size (by repeat (first | (with_reducible first | exact HB.out | apply below_alloc | apply pw_below_drewN | apply below_drew1) | exact HB.out))) : w.heap.size ≤ gb128)); have n3_ := Aside0.mk ((by rw [hg]; exact (below_size (by repeat (first | (with_reducible first | exact HB.out | apply below_alloc | apply pw_below_drewN | apply below_drew1) | exact HB.out))) : w.heap.size ≤ gb128)); clear HB; have HB := n0_; have BK128 := n1_; have GW128 := n2_; have GE128 := n3_; clear n0_ n1_ n2_ n3_; clear hb hbox hg) | ((with_reducible refine gate_dst (N := 3) rfl ?_); refine box_event ?hg (N := 3) ?hd (cs := #[.slice A1_0 l1_0.length c1_0]) (t := 24) ?hr ?_; (case hd => rfl); (case hg => rfl); (case hr => first | (go_simp; done) | (go_simp; rfl)); intro gb129 hg w5 hbox hb; have n0_ := Aside0.mk (blk_below (g := gb128) (o := .cells #[.slice A0_0 l0_0.length c0_0] 24 (0, 0)) (by (with_reducible repeat (first | refine blk_drewN ?_ _ | refine blk_drew ?_ | refine blk_alloc ?_ _)); exact BK128.out) hb); have n1_ := Aside0.mk (below_step (by repeat (first | (with_reducible first | exact HB.out | apply below_alloc | apply pw_below_drewN | apply below_drew1 | refine below_set ?_ GE128.out) | exact HB.out)) hb); have n2_ := Aside0.mk (hbox); have n3_ := Aside0.mk ((by rw [hg]; exact (below_size (by repeat (first | (with_reducible first | exact HB.out | apply below_alloc | apply pw_below_drewN | apply below_drew1 | refine below_set ?_ GE128.out) | exact HB.out))) : w.heap.size ≤ gb129)); have n4_ := Aside0.mk ((by rw [hg]; exact (below_size (by repeat (first | (with_reducible first | exact HB.out | apply below_alloc | apply pw_below_drewN | apply below_drew1 | refine below_set ?_ GE128.out) | exact HB.out))) : w.heap.size ≤ gb129)); have n5_ := Aside0.mk ((by rw [hg]; exact Nat.ne_of_lt (blk_lt (g := gb128) (o := .cells #[.slice A0_0 l0_0.length c0_0] 24 (0, 0)) (by (with_reducible repeat (first | refine blk_drewN ?_ _ | refine blk_drew ?_ | refine blk_alloc ?_ _)); exact BK128.out)) : gb128 ≠ gb129)); have n6_ := Aside0.mk ((by rw [hg]; exact Nat.ne_of_gt (blk_lt (g := gb128) (o := .cells #[.slice A0_0 l0_0.length c0_0] 24 (0, 0)) (by (with_reducible repeat (first | refine blk_drewN ?_ _ | refine blk_drew ?_ | refine blk_alloc ?_ _)); exact BK128.out)) : gb129 ≠ gb128)); clear BK128; clear HB; have BK128 := n0_; have HB := n1_; have BK129 := n2_; have GW129 := n3_; have GE129 := n4_; have NB128_129 := n5_; have NB129_128 := n6_; clear n0_ n1_ n2_ n3_ n4_ n5_ n6_; clear hb hbox hg; have hnb6 := NB128_129.out; have hnc6 := NB129_128.out; have hcz7_0 : w5.cell? ⟨gb128, 0, none⟩ = some (.slice A0_0 l0_0.length c0_0) := (blk_cell BK128.out 0).trans rfl; have hfz7_0 := blk_frozen BK128.out 0; have hcz8_0 : w5.cell? ⟨gb129, 0, none⟩ = some (.slice A1_0 l1_0.length c1_0) := (blk_cell BK129.out 0).trans rfl; have hfz8_0 := blk_frozen BK129.out 0)); try go_wp2_with (first | ((with_reducible refine gate_dst (N := 2) rfl ?_); refine box_event ?hg (N := 2) ?hd (cs := #[.slice A0_0 l0_0.length c0_0]) (t := 24) ?hr ?_; (case hd => rfl); (case hg => rfl); (case hr => first | (go_simp; done) | (go_simp; rfl)); intro gb128 hg w4 hbox hb; have n0_ := Aside0.mk (below_step (by repeat (first | (with_reducible first | exact HB.out | apply below_alloc | apply pw_below_drewN | apply below_drew1) | exact HB.out)) hb); have n1_ := Aside0.mk (hbox); have n2_ := Aside0.mk ((by rw [hg]; exact (below_size (by repeat (first | (with_reducible first | exact HB.out | apply below_alloc | apply pw_below_drewN | apply below_drew1) | exact HB.out))) : w.heap.size ≤ gb128)); have n3_ := Aside0.mk ((by rw [hg]; exact (below_size (by repeat (first | (with_reducible first | exact HB.out | apply below_alloc | apply pw_below_drewN | apply below_drew1) | exact HB.out))) : w.heap.size ≤ gb128)); clear HB; have HB := n0_; have BK128 := n1_; have GW128 := n2_; have GE128 := n3_; clear n0_ n1_ n2_ n3_; clear hb hbox hg) | ((with_reducible refine gate_dst (N := 3) rfl ?_); refine box_event ?hg (N := 3) ?hd (cs := #[.slice A1_0 l1_0.length c1_0]) (t := 24) ?hr ?_; (case hd => rfl); (case hg => rfl); (case hr => first | (go_simp; done) | (go_simp; rfl)); intro gb129 hg w5 hbox hb; have n0_ := Aside0.mk (blk_below (g := gb128) (o := .cells #[.slice A0_0 l0_0.length c0_0] 24 (0, 0)) (by (with_reducible repeat (first | refine blk_drewN ?_ _ | refine blk_drew ?_ | refine blk_alloc ?_ _)); exact BK128.out) hb); have n1_ := Aside0.mk (below_step (by repeat (first | (with_reducible first | exact HB.out | apply below_alloc | apply pw_below_drewN | apply below_drew1 | refine below_set ?_ GE128.out) | exact HB.out)) hb); have n2_ := Aside0.mk (hbox); have n3_ := Aside0.mk ((by rw [hg]; exact (below_size (by repeat (first | (with_reducible first | exact HB.out | apply below_alloc | apply pw_below_drewN | apply below_drew1 | refine below_set ?_ GE128.out) | exact HB.out))) : w.heap.size ≤ gb129)); have n4_ := Aside0.mk ((by rw [hg]; exact (below_size (by repeat (first | (with_reducible first | exact HB.out | apply below_alloc | apply pw_below_drewN | apply below_drew1 | refine below_set ?_ GE128.out) | exact HB.out))) : w.heap.size ≤ gb129)); have n5_ := Aside0.mk ((by rw [hg]; exact Nat.ne_of_lt (blk_lt (g := gb128) (o := .cells #[.slice A0_0 l0_0.length c0_0] 24 (0, 0)) (by (with_reducible repeat (first | refine blk_drewN ?_ _ | refine blk_drew ?_ | refine blk_alloc ?_ _)); exact BK128.out)) : gb128 ≠ gb129)); have n6_ := Aside0.mk ((by rw [hg]; exact Nat.ne_of_gt (blk_lt (g := gb128) (o := .cells #[.slice A0_0 l0_0.length c0_0] 24 (0, 0)) (by (with_reducible repeat (first | refine blk_drewN ?_ _ | refine blk_drew ?_ | refine blk_alloc ?_ _)); exact BK128.out)) : gb129 ≠ gb128)); clear BK128; clear HB; have BK128 := n0_; have HB := n1_; have BK129 := n2_; have GW129 := n3_; have GE129 := n4_; have NB128_129 := n5_; have NB129_128 := n6_; clear n0_ n1_ n2_ n3_ n4_ n5_ n6_; clear hb hbox hg; have hnb6 := NB128_129.out; have hnc6 := NB129_128.out; have hcz7_0 : w5.cell? ⟨gb128, 0, none⟩ = some (.slice A0_0 l0_0.length c0_0) := (blk_cell BK128.out 0).trans rfl; have hfz7_0 := blk_frozen BK128.out 0; have hcz8_0 : w5.cell? ⟨gb129, 0, none⟩ = some (.slice A1_0 l1_0.length c1_0) := (blk_cell BK129.out 0).trans rfl; have hfz8_0 := blk_frozen BK129.out 0)))
    go_loopg [5] k (fun kq v5 w' => ∃ (x5_1 : Int), v5 = .int .i64 x5_1 ∧ Aside0 (snowlineref02_Same.l0 kq x5_1 l0_0 l1_0 = some r) ∧ Aside0 (kq ≤ k) ∧ Aside0 (w'.heap[gb128]? = some (.cells #[(.slice A0_0 l0_0.length c0_0)] 24 (0, 0))) ∧ Aside0 (w'.heap[gb129]? = some (.cells #[(.slice A1_0 l1_0.length c1_0)] 24 (0, 0))) ∧ Aside0 (Below w.heap.size w w'))
    case atStart => exact ⟨(0), (by first | rfl | (simp; done) | (simp [*]; done)), H', ⟨Nat.le_refl _⟩, ⟨by (with_reducible repeat (first | refine blk_drewN ?_ _ | refine blk_drew ?_ | refine blk_alloc ?_ _)); exact BK128.out⟩, ⟨by (with_reducible repeat (first | refine blk_drewN ?_ _ | refine blk_drew ?_ | refine blk_alloc ?_ _)); exact BK129.out⟩, ⟨by repeat (first | (with_reducible first | exact HB.out | apply below_alloc | apply pw_below_drewN | apply below_drew1 | refine below_set ?_ GE128.out | refine below_set ?_ GE129.out) | exact HB.out)⟩⟩
    case round =>
      clear H'
      try clear c1
      try clear c2
      try clear p2
      try clear c3
      try clear c3b0
      try clear c3b1
      try clear c3b2
      try clear c6
      try clear hcz7_0
      try clear hcz8_0
      try clear hfz7_0
      try clear hfz8_0
      obtain ⟨x5_1, rfl, HA, HK1, BK128, BK129, HB⟩ := hrel
      cases gk with
      | zero => exact absurd HA.out (by simp [snowlineref02_Same.l0])
      | succ k1 =>
        have H := HA.out
        clear HA
        simp only [snowlineref02_Same.l0] at H
        by_cases c9 : x5_1 < (l0_0.length : Int)
        · rw [if_pos c9] at H
          have c9b0 : decide (x5_1 < (l0_0.length : Int)) = true := decide_eq_true c9
          clear c9
          by_cases c10 : 0 ≤ x5_1
          · rw [if_pos c10] at H
            have c10b0 : decide (0 ≤ x5_1) = true := decide_eq_true c10
            clear c10
            by_cases c11 : x5_1 < (l1_0.length : Int)
            · rw [if_pos c11] at H
              have c11b0 : decide (x5_1 < (l1_0.length : Int)) = true := decide_eq_true c11
              clear c11
              by_cases c12 : (!(((rd_T48 l0_0 x5_1).f0) == ((rd_T48 l1_0 x5_1).f0)) || (!(((rd_T48 l0_0 x5_1).f1) == ((rd_T48 l1_0 x5_1).f1)) || (!(((rd_T48 l0_0 x5_1).f2) == ((rd_T48 l1_0 x5_1).f2))))) = true
              · rw [if_pos c12] at H
                have c12b0 : (!(((rd_T48 l0_0 x5_1).f0) == ((rd_T48 l1_0 x5_1).f0)) || (!(((rd_T48 l0_0 x5_1).f1) == ((rd_T48 l1_0 x5_1).f1)) || (!(((rd_T48 l0_0 x5_1).f2) == ((rd_T48 l1_0 x5_1).f2))))) = true := c12
                clear c12
                obtain rfl := Option.some.inj H
                have hnb13 := NB128_129.out
                have hnc13 := NB129_128.out
                have hcz14_0 : wr.cell? ⟨gb128, 0, none⟩ = some (.slice A0_0 l0_0.length c0_0) := (blk_cell BK128.out 0).trans rfl
                have hfz14_0 := blk_frozen BK128.out 0
                have p130 : 0 ≤ (x5_1 : Int) := of_decide_eq_true (by first | (with_reducible assumption) | assumption)
                have q130 : x5_1 < (l0_0.length : Int) := of_decide_eq_true (by first | (with_reducible assumption) | assumption)
                obtain ⟨ad130, e130, hx130_0, hx130_1, hx130_2⟩ := at_T48 HR0_0.out x5_1 p130 q130
                cases e130
                replace hx130_0 := (HB.out.cell (World.block_lt_of_cell? w _ hx130_0)).trans hx130_0
                replace hx130_1 := (HB.out.cell (World.block_lt_of_cell? w _ hx130_1)).trans hx130_1
                replace hx130_2 := (HB.out.cell (World.block_lt_of_cell? w _ hx130_2)).trans hx130_2
                replace p130 := eq_true p130
                replace q130 := eq_true q130
                have hcz15_0 : wr.cell? ⟨gb129, 0, none⟩ = some (.slice A1_0 l1_0.length c1_0) := (blk_cell BK129.out 0).trans rfl
                have hfz15_0 := blk_frozen BK129.out 0
                have p131 : 0 ≤ (x5_1 : Int) := of_decide_eq_true (by first | (with_reducible assumption) | assumption)
                have q131 : x5_1 < (l1_0.length : Int) := of_decide_eq_true (by first | (with_reducible assumption) | assumption)
                obtain ⟨ad131, e131, hx131_0, hx131_1, hx131_2⟩ := at_T48 HR1_0.out x5_1 p131 q131
                cases e131
                replace hx131_0 := (HB.out.cell (World.block_lt_of_cell? w _ hx131_0)).trans hx131_0
                replace hx131_1 := (HB.out.cell (World.block_lt_of_cell? w _ hx131_1)).trans hx131_1
                replace hx131_2 := (HB.out.cell (World.block_lt_of_cell? w _ hx131_2)).trans hx131_2
                replace p131 := eq_true p131
                replace q131 := eq_true q131
                go_wp2
                repeat (go_quiet (fail); try go_wp2)
                go_ret
                exact ⟨by first | rfl | (simp [errW_none, errW_some] <;> rfl) | (simp [*, errW_none, errW_some] <;> rfl), by repeat (first | (with_reducible first | exact HB.out | apply below_alloc | apply pw_below_drewN | apply below_drew1 | refine below_set ?_ GE128.out | refine below_set ?_ GE129.out) | exact HB.out)⟩
              · rw [if_neg c12] at H
                have c12b0 : (!(((rd_T48 l0_0 x5_1).f0) == ((rd_T48 l1_0 x5_1).f0)) || (!(((rd_T48 l0_0 x5_1).f1) == ((rd_T48 l1_0 x5_1).f1)) || (!(((rd_T48 l0_0 x5_1).f2) == ((rd_T48 l1_0 x5_1).f2))))) = false := by simpa using c12
                clear c12
                have H' := Aside0.mk H
                clear H
                have hnb16 := NB128_129.out
                have hnc16 := NB129_128.out
                have hcz17_0 : wr.cell? ⟨gb128, 0, none⟩ = some (.slice A0_0 l0_0.length c0_0) := (blk_cell BK128.out 0).trans rfl
                have hfz17_0 := blk_frozen BK128.out 0
                have p130 : 0 ≤ (x5_1 : Int) := of_decide_eq_true (by first | (with_reducible assumption) | assumption)
                have q130 : x5_1 < (l0_0.length : Int) := of_decide_eq_true (by first | (with_reducible assumption) | assumption)
                obtain ⟨ad130, e130, hx130_0, hx130_1, hx130_2⟩ := at_T48 HR0_0.out x5_1 p130 q130
                cases e130
                replace hx130_0 := (HB.out.cell (World.block_lt_of_cell? w _ hx130_0)).trans hx130_0
                replace hx130_1 := (HB.out.cell (World.block_lt_of_cell? w _ hx130_1)).trans hx130_1
                replace hx130_2 := (HB.out.cell (World.block_lt_of_cell? w _ hx130_2)).trans hx130_2
                replace p130 := eq_true p130
                replace q130 := eq_true q130
                have hcz18_0 : wr.cell? ⟨gb129, 0, none⟩ = some (.slice A1_0 l1_0.length c1_0) := (blk_cell BK129.out 0).trans rfl
                have hfz18_0 := blk_frozen BK129.out 0
                have p131 : 0 ≤ (x5_1 : Int) := of_decide_eq_true (by first | (with_reducible assumption) | assumption)
                have q131 : x5_1 < (l1_0.length : Int) := of_decide_eq_true (by first | (with_reducible assumption) | assumption)
                obtain ⟨ad131, e131, hx131_0, hx131_1, hx131_2⟩ := at_T48 HR1_0.out x5_1 p131 q131
                cases e131
                replace hx131_0 := (HB.out.cell (World.block_lt_of_cell? w _ hx131_0)).trans hx131_0
                replace hx131_1 := (HB.out.cell (World.block_lt_of_cell? w _ hx131_1)).trans hx131_1
                replace hx131_2 := (HB.out.cell (World.block_lt_of_cell? w _ hx131_2)).trans hx131_2
                replace p131 := eq_true p131
                replace q131 := eq_true q131
                go_wp2
                repeat (go_quiet (fail); try go_wp2)
                go_roundg k1
                case measure => have := HK1.out; omega
                case rel => exact ⟨(wrap64 (x5_1 + 1)), (by first | rfl | (simp; done) | (simp [*]; done)), H', ⟨by have := HK1.out; omega⟩, ⟨by (with_reducible repeat (first | refine blk_drewN ?_ _ | refine blk_drew ?_ | refine blk_alloc ?_ _)); exact BK128.out⟩, ⟨by (with_reducible repeat (first | refine blk_drewN ?_ _ | refine blk_drew ?_ | refine blk_alloc ?_ _)); exact BK129.out⟩, ⟨by repeat (first | (with_reducible first | exact HB.out | apply below_alloc | apply pw_below_drewN | apply below_drew1 | refine below_set ?_ GE128.out | refine below_set ?_ GE129.out) | exact HB.out)⟩⟩
            · rw [if_neg c11] at H
              exact absurd H (by simp)
          · rw [if_neg c10] at H
            exact absurd H (by simp)
        · rw [if_neg c9] at H
          have c9b0 : decide (x5_1 < (l0_0.length : Int)) = false := decide_eq_false c9
          clear c9
          obtain rfl := Option.some.inj H
          have hnb19 := NB128_129.out
          have hnc19 := NB129_128.out
          have hcz20_0 : wr.cell? ⟨gb128, 0, none⟩ = some (.slice A0_0 l0_0.length c0_0) := (blk_cell BK128.out 0).trans rfl
          have hfz20_0 := blk_frozen BK128.out 0
          go_wp2
          repeat (go_quiet (fail); try go_wp2)
          go_ret
          exact ⟨by first | rfl | (simp [errW_none, errW_some] <;> rfl) | (simp [*, errW_none, errW_some] <;> rfl), by repeat (first | (with_reducible first | exact HB.out | apply below_alloc | apply pw_below_drewN | apply below_drew1 | refine below_set ?_ GE128.out | refine below_set ?_ GE129.out) | exact HB.out)⟩
  · rw [if_neg c3] at H
    have c3b0 : ((l0_0.length : Int) == (l1_0.length : Int)) = false := beq_eq_false_iff_ne.mpr c3
    have c3b1 : ((l0_0.length : Int) != (l1_0.length : Int)) = true := bne_iff_ne.mpr c3
    have c3b2 : (l0_0.length == l1_0.length) = false := by first | simpa using c3 | (simp at c3 ⊢; omega)
    obtain rfl := Option.some.inj H
    go_enter Tryd.func23, Tryd.ntmps23
    go_wp2_with (first | ((with_reducible refine gate_dst (N := 2) rfl ?_); refine box_event ?hg (N := 2) ?hd (cs := #[.slice A0_0 l0_0.length c0_0]) (t := 24) ?hr ?_; (case hd => rfl); (case hg => rfl); (case hr => first | (go_simp; done) | (go_simp; rfl)); intro gb128 hg w21 hbox hb; have n0_ := Aside0.mk (below_step (by repeat (first | (with_reducible first | exact HB.out | apply below_alloc | apply pw_below_drewN | apply below_drew1) | exact HB.out)) hb); have n1_ := Aside0.mk (hbox); have n2_ := Aside0.mk ((by rw [hg]; exact (below_size (by repeat (first | (with_reducible first | exact HB.out | apply below_alloc | apply pw_below_drewN | apply below_drew1) | exact HB.out))) : w.heap.size ≤ gb128)); have n3_ := Aside0.mk ((by rw [hg]; exact (below_size (by repeat (first | (with_reducible first | exact HB.out | apply below_alloc | apply pw_below_drewN | apply below_drew1) | exact HB.out))) : w.heap.size ≤ gb128)); clear HB; have HB := n0_; have BK128 := n1_; have GW128 := n2_; have GE128 := n3_; clear n0_ n1_ n2_ n3_; clear hb hbox hg) | ((with_reducible refine gate_dst (N := 3) rfl ?_); refine box_event ?hg (N := 3) ?hd (cs := #[.slice A1_0 l1_0.length c1_0]) (t := 24) ?hr ?_; (case hd => rfl); (case hg => rfl); (case hr => first | (go_simp; done) | (go_simp; rfl)); intro gb129 hg w22 hbox hb; have n0_ := Aside0.mk (blk_below (g := gb128) (o := .cells #[.slice A0_0 l0_0.length c0_0] 24 (0, 0)) (by (with_reducible repeat (first | refine blk_drewN ?_ _ | refine blk_drew ?_ | refine blk_alloc ?_ _)); exact BK128.out) hb); have n1_ := Aside0.mk (below_step (by repeat (first | (with_reducible first | exact HB.out | apply below_alloc | apply pw_below_drewN | apply below_drew1 | refine below_set ?_ GE128.out) | exact HB.out)) hb); have n2_ := Aside0.mk (hbox); have n3_ := Aside0.mk ((by rw [hg]; exact (below_size (by repeat (first | (with_reducible first | exact HB.out | apply below_alloc | apply pw_below_drewN | apply below_drew1 | refine below_set ?_ GE128.out) | exact HB.out))) : w.heap.size ≤ gb129)); have n4_ := Aside0.mk ((by rw [hg]; exact (below_size (by repeat (first | (with_reducible first | exact HB.out | apply below_alloc | apply pw_below_drewN | apply below_drew1 | refine below_set ?_ GE128.out) | exact HB.out))) : w.heap.size ≤ gb129)); have n5_ := Aside0.mk ((by rw [hg]; exact Nat.ne_of_lt (blk_lt (g := gb128) (o := .cells #[.slice A0_0 l0_0.length c0_0] 24 (0, 0)) (by (with_reducible repeat (first | refine blk_drewN ?_ _ | refine blk_drew ?_ | refine blk_alloc ?_ _)); exact BK128.out)) : gb128 ≠ gb129)); have n6_ := Aside0.mk ((by rw [hg]; exact Nat.ne_of_gt (blk_lt (g := gb128) (o := .cells #[.slice A0_0 l0_0.length c0_0] 24 (0, 0)) (by (with_reducible repeat (first | refine blk_drewN ?_ _ | refine blk_drew ?_ | refine blk_alloc ?_ _)); exact BK128.out)) : gb129 ≠ gb128)); clear BK128; clear HB; have BK128 := n0_; have HB := n1_; have BK129 := n2_; have GW129 := n3_; have GE129 := n4_; have NB128_129 := n5_; have NB129_128 := n6_; clear n0_ n1_ n2_ n3_ n4_ n5_ n6_; clear hb hbox hg; have hnb23 := NB128_129.out; have hnc23 := NB129_128.out; have hcz24_0 : w22.cell? ⟨gb128, 0, none⟩ = some (.slice A0_0 l0_0.length c0_0) := (blk_cell BK128.out 0).trans rfl; have hfz24_0 := blk_frozen BK128.out 0; have hcz25_0 : w22.cell? ⟨gb129, 0, none⟩ = some (.slice A1_0 l1_0.length c1_0) := (blk_cell BK129.out 0).trans rfl; have hfz25_0 := blk_frozen BK129.out 0))
    repeat (go_quiet (first | ((with_reducible refine gate_dst (N := 2) rfl ?_); refine box_event ?hg (N := 2) ?hd (cs := #[.slice A0_0 l0_0.length c0_0]) (t := 24) ?hr ?_; (case hd => rfl); (case hg => rfl); (case hr => first | (go_simp; done) | (go_simp; rfl)); intro gb128 hg w21 hbox hb; have n0_ := Aside0.mk (below_step (by repeat (first | (with_reducible first | exact HB.out | apply below_alloc | apply pw_below_drewN | apply below_drew1) | exact HB.out)) hb); have n1_ := Aside0.mk (hbox); have n2_ := Aside0.mk ((by rw [hg]; exact (below_size (by repeat (first | (with_reducible first | exact HB.out | apply below_alloc | apply pw_below_drewN | apply below_drew1) | exact HB.out))) : w.heap.size ≤ gb128)); have n3_ := Aside0.mk ((by rw [hg]; exact (below_size (by repeat (first | (with_reducible first | exact HB.out | apply below_alloc | apply pw_below_drewN | apply below_drew1) | exact HB.out))) : w.heap.size ≤ gb128)); clear HB; have HB := n0_; have BK128 := n1_; have GW128 := n2_; have GE128 := n3_; clear n0_ n1_ n2_ n3_; clear hb hbox hg) | ((with_reducible refine gate_dst (N := 3) rfl ?_); refine box_event ?hg (N := 3) ?hd (cs := #[.slice A1_0 l1_0.length c1_0]) (t := 24) ?hr ?_; (case hd => rfl); (case hg => rfl); (case hr => first | (go_simp; done) | (go_simp; rfl)); intro gb129 hg w22 hbox hb; have n0_ := Aside0.mk (blk_below (g := gb128) (o := .cells #[.slice A0_0 l0_0.length c0_0] 24 (0, 0)) (by (with_reducible repeat (first | refine blk_drewN ?_ _ | refine blk_drew ?_ | refine blk_alloc ?_ _)); exact BK128.out) hb); have n1_ := Aside0.mk (below_step (by repeat (first | (with_reducible first | exact HB.out | apply below_alloc | apply pw_below_drewN | apply below_drew1 | refine below_set ?_ GE128.out) | exact HB.out)) hb); have n2_ := Aside0.mk (hbox); have n3_ := Aside0.mk ((by rw [hg]; exact (below_size (by repeat (first | (with_reducible first | exact HB.out | apply below_alloc | apply pw_below_drewN | apply below_drew1 | refine below_set ?_ GE128.out) | exact HB.out))) : w.heap.size ≤ gb129)); have n4_ := Aside0.mk ((by rw [hg]; exact (below_size (by repeat (first | (with_reducible first | exact HB.out | apply below_alloc | apply pw_below_drewN | apply below_drew1 | refine below_set ?_ GE128.out) | exact HB.out))) : w.heap.size ≤ gb129)); have n5_ := Aside0.mk ((by rw [hg]; exact Nat.ne_of_lt (blk_lt (g := gb128) (o := .cells #[.slice A0_0 l0_0.length c0_0] 24 (0, 0)) (by (with_reducible repeat (first | refine blk_drewN ?_ _ | refine blk_drew ?_ | refine blk_alloc ?_ _)); exact BK128.out)) : gb128 ≠ gb129)); have n6_ := Aside0.mk ((by rw [hg]; exact Nat.ne_of_gt (blk_lt (g := gb128) (o := .cells #[.slice A0_0 l0_0.length c0_0] 24 (0, 0)) (by (with_reducible repeat (first | refine blk_drewN ?_ _ | refine blk_drew ?_ | refine blk_alloc ?_ _)); exact BK128.out)) : gb129 ≠ gb128)); clear BK128; clear HB; have BK128 := n0_; have HB := n1_; have BK129 := n2_; have GW129 := n3_; have GE129 := n4_; have NB128_129 := n5_; have NB129_128 := n6_; clear n0_ n1_ n2_ n3_ n4_ n5_ n6_; clear hb hbox hg; have hnb23 := NB128_129.out; have hnc23 := NB129_128.out; have hcz24_0 : w22.cell? ⟨gb128, 0, none⟩ = some (.slice A0_0 l0_0.length c0_0) := (blk_cell BK128.out 0).trans rfl; have hfz24_0 := blk_frozen BK128.out 0; have hcz25_0 : w22.cell? ⟨gb129, 0, none⟩ = some (.slice A1_0 l1_0.length c1_0) := (blk_cell BK129.out 0).trans rfl; have hfz25_0 := blk_frozen BK129.out 0)); try go_wp2_with (first | ((with_reducible refine gate_dst (N := 2) rfl ?_); refine box_event ?hg (N := 2) ?hd (cs := #[.slice A0_0 l0_0.length c0_0]) (t := 24) ?hr ?_; (case hd => rfl); (case hg => rfl); (case hr => first | (go_simp; done) | (go_simp; rfl)); intro gb128 hg w21 hbox hb; have n0_ := Aside0.mk (below_step (by repeat (first | (with_reducible first | exact HB.out | apply below_alloc | apply pw_below_drewN | apply below_drew1) | exact HB.out)) hb); have n1_ := Aside0.mk (hbox); have n2_ := Aside0.mk ((by rw [hg]; exact (below_size (by repeat (first | (with_reducible first | exact HB.out | apply below_alloc | apply pw_below_drewN | apply below_drew1) | exact HB.out))) : w.heap.size ≤ gb128)); have n3_ := Aside0.mk ((by rw [hg]; exact (below_size (by repeat (first | (with_reducible first | exact HB.out | apply below_alloc | apply pw_below_drewN | apply below_drew1) | exact HB.out))) : w.heap.size ≤ gb128)); clear HB; have HB := n0_; have BK128 := n1_; have GW128 := n2_; have GE128 := n3_; clear n0_ n1_ n2_ n3_; clear hb hbox hg) | ((with_reducible refine gate_dst (N := 3) rfl ?_); refine box_event ?hg (N := 3) ?hd (cs := #[.slice A1_0 l1_0.length c1_0]) (t := 24) ?hr ?_; (case hd => rfl); (case hg => rfl); (case hr => first | (go_simp; done) | (go_simp; rfl)); intro gb129 hg w22 hbox hb; have n0_ := Aside0.mk (blk_below (g := gb128) (o := .cells #[.slice A0_0 l0_0.length c0_0] 24 (0, 0)) (by (with_reducible repeat (first | refine blk_drewN ?_ _ | refine blk_drew ?_ | refine blk_alloc ?_ _)); exact BK128.out) hb); have n1_ := Aside0.mk (below_step (by repeat (first | (with_reducible first | exact HB.out | apply below_alloc | apply pw_below_drewN | apply below_drew1 | refine below_set ?_ GE128.out) | exact HB.out)) hb); have n2_ := Aside0.mk (hbox); have n3_ := Aside0.mk ((by rw [hg]; exact (below_size (by repeat (first | (with_reducible first | exact HB.out | apply below_alloc | apply pw_below_drewN | apply below_drew1 | refine below_set ?_ GE128.out) | exact HB.out))) : w.heap.size ≤ gb129)); have n4_ := Aside0.mk ((by rw [hg]; exact (below_size (by repeat (first | (with_reducible first | exact HB.out | apply below_alloc | apply pw_below_drewN | apply below_drew1 | refine below_set ?_ GE128.out) | exact HB.out))) : w.heap.size ≤ gb129)); have n5_ := Aside0.mk ((by rw [hg]; exact Nat.ne_of_lt (blk_lt (g := gb128) (o := .cells #[.slice A0_0 l0_0.length c0_0] 24 (0, 0)) (by (with_reducible repeat (first | refine blk_drewN ?_ _ | refine blk_drew ?_ | refine blk_alloc ?_ _)); exact BK128.out)) : gb128 ≠ gb129)); have n6_ := Aside0.mk ((by rw [hg]; exact Nat.ne_of_gt (blk_lt (g := gb128) (o := .cells #[.slice A0_0 l0_0.length c0_0] 24 (0, 0)) (by (with_reducible repeat (first | refine blk_drewN ?_ _ | refine blk_drew ?_ | refine blk_alloc ?_ _)); exact BK128.out)) : gb129 ≠ gb128)); clear BK128; clear HB; have BK128 := n0_; have HB := n1_; have BK129 := n2_; have GW129 := n3_; have GE129 := n4_; have NB128_129 := n5_; have NB129_128 := n6_; clear n0_ n1_ n2_ n3_ n4_ n5_ n6_; clear hb hbox hg; have hnb23 := NB128_129.out; have hnc23 := NB129_128.out; have hcz24_0 : w22.cell? ⟨gb128, 0, none⟩ = some (.slice A0_0 l0_0.length c0_0) := (blk_cell BK128.out 0).trans rfl; have hfz24_0 := blk_frozen BK128.out 0; have hcz25_0 : w22.cell? ⟨gb129, 0, none⟩ = some (.slice A1_0 l1_0.length c1_0) := (blk_cell BK129.out 0).trans rfl; have hfz25_0 := blk_frozen BK129.out 0)))
    go_ret
    exact ⟨by first | rfl | (simp [errW_none, errW_some] <;> rfl) | (simp [*, errW_none, errW_some] <;> rfl), by repeat (first | (with_reducible first | exact HB.out | apply below_alloc | apply pw_below_drewN | apply below_drew1 | refine below_set ?_ GE128.out | refine below_set ?_ GE129.out) | exact HB.out)⟩
end Go.Proofs.YtpldcikmlpegpaaDoor.PB
end
section
namespace Go.Proofs.YtpldcikmlpegpaaDoor.PB
open Go.RowKit Go.Proofs.YtpldcikmlpegpaaDoorW.PrintWords Go.Proofs.YtpldcikmlpegpaaDoorW.PrintLast Go.Proofs.YtpldcikmlpegpaaDoorW.PrintMore
attribute [local go_sem] max2_int min2_int max_two min_two max_three min_three max_four min_four   -- for this text's walks alone
set_option linter.unusedVariables false
set_option linter.unusedSimpArgs false
def pack_Water.f (k : Nat) (l0_0 : List (S48)) : Option (Int × Int) := (pack_Check.f k l0_0).bind fun t133 => (if t133 = 0 then ((pack_sums.f k l0_0).bind fun bt134 => (some (bt134.1, 0))) else (some (0, t133)))
set_option maxHeartbeats 8000000 in
set_option maxRecDepth 100000 in
theorem pack_Water.calls (k : Nat) (A0_0 : Option Addr) (c0_0 : Nat) (l0_0 : List (S48)) (r1 : Int) (r2 : Int) (w : World) (hr0_0 : Kd.C k48 w A0_0 l0_0.length l0_0) (hc0_0 : l0_0.length ≤ c0_0) (h : pack_Water.f k l0_0 = some (r1, r2)) :
    Calls Tryd.prog 24 #[.agg #[.slice A0_0 l0_0.length c0_0]] w fun e w' => e = .returned (.tuple #[.int .i64 r1, .int .i64 r2]) ∧ Below w.heap.size w w' := by
  have hu24 := Tryd.underlying24
  have HR0_0 := Aside0.mk hr0_0
  have HC0_0 := Aside0.mk hc0_0
  clear hr0_0 hc0_0
  have HB := Aside0.mk (Below.refl w.heap.size w)
  have H : ((pack_Check.f k l0_0).bind fun t133 => (if t133 = 0 then ((pack_sums.f k l0_0).bind fun bt134 => (some (bt134.1, 0))) else (some (0, t133)))) = some (r1, r2) := h
  clear h
  replace H := Option.bind_eq_some_iff.mp H
  obtain ⟨t133, A20, H⟩ := H
  replace H : (if t133 = 0 then ((pack_sums.f k l0_0).bind fun bt134 => (some (bt134.1, 0))) else (some (0, t133))) = some (r1, r2) := H
  have A2 := Aside0.mk A20
  clear A20
  by_cases c3 : t133 = 0
  · rw [if_pos c3] at H
    have c3b0 : (t133 == 0) = true := beq_iff_eq.mpr c3
    have c3b1 : (t133 != 0) = false := bne_eq_false_iff_eq.mpr c3
    clear c3
    replace H := Option.bind_eq_some_iff.mp H
    obtain ⟨⟨t134, t135⟩, A40, H⟩ := H
    replace H : (some (t134, 0)) = some (r1, r2) := H
    have A4 := Aside0.mk A40
    clear A40
    simp only [Option.some.injEq, Prod.mk.injEq] at H
    obtain ⟨rfl, rfl⟩ := H
    go_enter Tryd.func24, Tryd.ntmps24
    go_wp2_with (first | ((with_reducible refine gate_dst (N := 1) rfl ?_); refine box_event ?hg (N := 1) ?hd (cs := #[.slice A0_0 l0_0.length c0_0]) (t := 24) ?hr ?_; (case hd => rfl); (case hg => rfl); (case hr => first | (go_simp; done) | (go_simp; rfl)); intro gb132 hg w5 hbox hb; have n0_ := Aside0.mk (below_step (by repeat (first | (with_reducible first | exact HB.out | apply below_alloc | apply pw_below_drewN | apply below_drew1) | exact HB.out)) hb); have n1_ := Aside0.mk (hbox); have n2_ := Aside0.mk ((by rw [hg]; exact (below_size (by repeat (first | (with_reducible first | exact HB.out | apply below_alloc | apply pw_below_drewN | apply below_drew1) | exact HB.out))) : w.heap.size ≤ gb132)); have n3_ := Aside0.mk ((by rw [hg]; exact (below_size (by repeat (first | (with_reducible first | exact HB.out | apply below_alloc | apply pw_below_drewN | apply below_drew1) | exact HB.out))) : w.heap.size ≤ gb132)); clear HB; have HB := n0_; have BK132 := n1_; have GW132 := n2_; have GE132 := n3_; clear n0_ n1_ n2_ n3_; clear hb hbox hg; have hcz6_0 : w5.cell? ⟨gb132, 0, none⟩ = some (.slice A0_0 l0_0.length c0_0) := (blk_cell BK132.out 0).trans rfl; have hfz6_0 := blk_frozen BK132.out 0) | ((with_reducible refine gate_callee (f := 25) rfl ?_); refine goesL_ (some 8) rfl rfl Tryd.func25 (by kernel_rfl) rfl #[.agg #[.slice A0_0 l0_0.length c0_0]] rfl (by (try simp only [List.map_toArray, List.map_cons, List.map_nil]); first | done | rfl | (simp only [List.length_drop, List.length_take]; rfl)) ?_; (with_reducible refine (pack_Check.calls k _ _ l0_0 t133 _ ?side1 ?side2 A2.out).mono ?_); (case side1 => repeat (first | exact (Kd.C_below HR0_0.out HB.out) | (with_reducible refine Kd.C_alloc ?_ _) | (with_reducible refine Kd.C_drewN ?_ _) | (with_reducible refine Kd.C_drew ?_))); (case side2 => exact HC0_0.out); rintro e w7 ⟨rfl, hb⟩; refine ⟨_, rfl, ?_⟩; have n0_ := Aside0.mk (blk_below (g := gb132) (o := .cells #[.slice A0_0 l0_0.length c0_0] 24 (0, 0)) (by (with_reducible repeat (first | refine blk_drewN ?_ _ | refine blk_drew ?_ | refine blk_alloc ?_ _)); exact BK132.out) hb); have n1_ := Aside0.mk (below_step (by repeat (first | (with_reducible first | exact HB.out | apply below_alloc | apply pw_below_drewN | apply below_drew1 | refine below_set ?_ GE132.out) | exact HB.out)) hb); clear BK132; clear HB; have BK132 := n0_; have HB := n1_; clear n0_ n1_; (try clear hb); (try clear hb2); (try clear hk); (try clear hi); have hcz8_0 : w7.cell? ⟨gb132, 0, none⟩ = some (.slice A0_0 l0_0.length c0_0) := (blk_cell BK132.out 0).trans rfl; have hfz8_0 := blk_frozen BK132.out 0) | ((with_reducible refine gate_callee (f := 63) rfl ?_); refine goesL_ (some 15) rfl rfl Tryd.func63 (by kernel_rfl) rfl #[.slice A0_0 l0_0.length c0_0] rfl (by (try simp only [List.map_toArray, List.map_cons, List.map_nil]); first | done | rfl | (simp only [List.length_drop, List.length_take]; rfl)) ?_; (with_reducible refine (pack_sums.calls k _ _ l0_0 t134 t135 _ ?side1 ?side2 A4.out).mono ?_); (case side1 => repeat (first | exact (Kd.C_below HR0_0.out HB.out) | (with_reducible refine Kd.C_alloc ?_ _) | (with_reducible refine Kd.C_drewN ?_ _) | (with_reducible refine Kd.C_drew ?_))); (case side2 => exact HC0_0.out); rintro e w9 ⟨rfl, hb⟩; refine ⟨_, rfl, ?_⟩; have n0_ := Aside0.mk (blk_below (g := gb132) (o := .cells #[.slice A0_0 l0_0.length c0_0] 24 (0, 0)) (by (with_reducible repeat (first | refine blk_drewN ?_ _ | refine blk_drew ?_ | refine blk_alloc ?_ _)); exact BK132.out) hb); have n1_ := Aside0.mk (below_step (by repeat (first | (with_reducible first | exact HB.out | apply below_alloc | apply pw_below_drewN | apply below_drew1 | refine below_set ?_ GE132.out) | exact HB.out)) hb); clear BK132; clear HB; have BK132 := n0_; have HB := n1_; clear n0_ n1_; (try clear hb); (try clear hb2); (try clear hk); (try clear hi)))
    go_ret2
    exact ⟨by first | rfl | (simp [errW_none, errW_some] <;> rfl) | (simp [*, errW_none, errW_some] <;> rfl), by repeat (first | (with_reducible first | exact HB.out | apply below_alloc | apply pw_below_drewN | apply below_drew1 | refine below_set ?_ GE132.out) | exact HB.out)⟩
  · rw [if_neg c3] at H
    have c3b0 : (t133 == 0) = false := beq_eq_false_iff_ne.mpr c3
    have c3b1 : (t133 != 0) = true := bne_iff_ne.mpr c3
    simp only [Option.some.injEq, Prod.mk.injEq] at H
    obtain ⟨rfl, rfl⟩ := H
    go_enter Tryd.func24, Tryd.ntmps24
    go_wp2_with (first | ((with_reducible refine gate_dst (N := 1) rfl ?_); refine box_event ?hg (N := 1) ?hd (cs := #[.slice A0_0 l0_0.length c0_0]) (t := 24) ?hr ?_; (case hd => rfl); (case hg => rfl); (case hr => first | (go_simp; done) | (go_simp; rfl)); intro gb132 hg w10 hbox hb; have n0_ := Aside0.mk (below_step (by repeat (first | (with_reducible first | exact HB.out | apply below_alloc | apply pw_below_drewN | apply below_drew1) | exact HB.out)) hb); have n1_ := Aside0.mk (hbox); have n2_ := Aside0.mk ((by rw [hg]; exact (below_size (by repeat (first | (with_reducible first | exact HB.out | apply below_alloc | apply pw_below_drewN | apply below_drew1) | exact HB.out))) : w.heap.size ≤ gb132)); have n3_ := Aside0.mk ((by rw [hg]; exact (below_size (by repeat (first | (with_reducible first | exact HB.out | apply below_alloc | apply pw_below_drewN | apply below_drew1) | exact HB.out))) : w.heap.size ≤ gb132)); clear HB; have HB := n0_; have BK132 := n1_; have GW132 := n2_; have GE132 := n3_; clear n0_ n1_ n2_ n3_; clear hb hbox hg; have hcz11_0 : w10.cell? ⟨gb132, 0, none⟩ = some (.slice A0_0 l0_0.length c0_0) := (blk_cell BK132.out 0).trans rfl; have hfz11_0 := blk_frozen BK132.out 0) | ((with_reducible refine gate_callee (f := 25) rfl ?_); refine goesL_ (some 8) rfl rfl Tryd.func25 (by kernel_rfl) rfl #[.agg #[.slice A0_0 l0_0.length c0_0]] rfl (by (try simp only [List.map_toArray, List.map_cons, List.map_nil]); first | done | rfl | (simp only [List.length_drop, List.length_take]; rfl)) ?_; (with_reducible refine (pack_Check.calls k _ _ l0_0 t133 _ ?side1 ?side2 A2.out).mono ?_); (case side1 => repeat (first | exact (Kd.C_below HR0_0.out HB.out) | (with_reducible refine Kd.C_alloc ?_ _) | (with_reducible refine Kd.C_drewN ?_ _) | (with_reducible refine Kd.C_drew ?_))); (case side2 => exact HC0_0.out); rintro e w12 ⟨rfl, hb⟩; refine ⟨_, rfl, ?_⟩; have n0_ := Aside0.mk (blk_below (g := gb132) (o := .cells #[.slice A0_0 l0_0.length c0_0] 24 (0, 0)) (by (with_reducible repeat (first | refine blk_drewN ?_ _ | refine blk_drew ?_ | refine blk_alloc ?_ _)); exact BK132.out) hb); have n1_ := Aside0.mk (below_step (by repeat (first | (with_reducible first | exact HB.out | apply below_alloc | apply pw_below_drewN | apply below_drew1 | refine below_set ?_ GE132.out) | exact HB.out)) hb); clear BK132; clear HB; have BK132 := n0_; have HB := n1_; clear n0_ n1_; (try clear hb); (try clear hb2); (try clear hk); (try clear hi)))
    go_ret2
    exact ⟨by first | rfl | (simp [errW_none, errW_some] <;> rfl) | (simp [*, errW_none, errW_some] <;> rfl), by repeat (first | (with_reducible first | exact HB.out | apply below_alloc | apply pw_below_drewN | apply below_drew1 | refine below_set ?_ GE132.out) | exact HB.out)⟩
def pack_Ready.l0 : Nat → Int → List (S48) → Int → Int → Option (Int × Int)
  | 0, _, _, _, _ => none
  | k + 1, x5, x14, x15, x16 => if x16 < x15 then (if 0 ≤ x16 then (if x16 < (x14.length : Int) then ((pack_hold.f (wrap64 (((rd_T48 x14 x16).f0) + ((rd_T48 x14 x16).f2))) ((rd_T48 x14 x16).f1) ((rd_T48 x14 x16).f2)).bind fun t140 => (pack_Ready.l0 k (wrap64 ((wrap64 (x5 + (wrap64 (((rd_T48 x14 x16).f2) - ((rd_T48 x14 x16).f1))))) + t140)) x14 x15 (wrap64 (x16 + 1)))) else (none)) else (none)) else (some (x5, 0))
def pack_Ready.f (k : Nat) (l0_0 : List (S48)) : Option (Int × Int) := (pack_Check.f k l0_0).bind fun t137 => (if t137 = 0 then (pack_Ready.l0 k 0 l0_0 (l0_0.length : Int) 0) else (some (0, t137)))
set_option maxHeartbeats 8000000 in
set_option maxRecDepth 100000 in
theorem pack_Ready.calls (k : Nat) (A0_0 : Option Addr) (c0_0 : Nat) (l0_0 : List (S48)) (r1 : Int) (r2 : Int) (w : World) (hr0_0 : Kd.C k48 w A0_0 l0_0.length l0_0) (hc0_0 : l0_0.length ≤ c0_0) (h : pack_Ready.f k l0_0 = some (r1, r2)) :
    Calls Tryd.prog 26 #[.agg #[.slice A0_0 l0_0.length c0_0]] w fun e w' => e = .returned (.tuple #[.int .i64 r1, .int .i64 r2]) ∧ Below w.heap.size w w' := by
  have hu24 := Tryd.underlying24
  have hu48 := Tryd.underlying48
  have HR0_0 := Aside0.mk hr0_0
  have HC0_0 := Aside0.mk hc0_0
  clear hr0_0 hc0_0
  have HB := Aside0.mk (Below.refl w.heap.size w)
  have H : ((pack_Check.f k l0_0).bind fun t137 => (if t137 = 0 then (pack_Ready.l0 k 0 l0_0 (l0_0.length : Int) 0) else (some (0, t137)))) = some (r1, r2) := h
  clear h
  replace H := Option.bind_eq_some_iff.mp H
  obtain ⟨t137, A20, H⟩ := H
  replace H : (if t137 = 0 then (pack_Ready.l0 k 0 l0_0 (l0_0.length : Int) 0) else (some (0, t137))) = some (r1, r2) := H
  have A2 := Aside0.mk A20
  clear A20
  by_cases c3 : t137 = 0
  · rw [if_pos c3] at H
    have c3b0 : (t137 == 0) = true := beq_iff_eq.mpr c3
    have c3b1 : (t137 != 0) = false := bne_eq_false_iff_eq.mpr c3
    clear c3
    have H' := Aside0.mk H
    clear H
    go_enter Tryd.func26, Tryd.ntmps26
    go_wp2_with (first | ((with_reducible refine gate_dst (N := 1) rfl ?_); refine box_event ?hg (N := 1) ?hd (cs := #[.slice A0_0 l0_0.length c0_0]) (t := 24) ?hr ?_; (case hd => rfl); (case hg => rfl); (case hr => first | (go_simp; done) | (go_simp; rfl)); intro gb136 hg w4 hbox hb; have n0_ := Aside0.mk (below_step (by repeat (first | (with_reducible first | exact HB.out | apply below_alloc | apply pw_below_drewN | apply below_drew1) | exact HB.out)) hb); have n1_ := Aside0.mk (hbox); have n2_ := Aside0.mk ((by rw [hg]; exact (below_size (by repeat (first | (with_reducible first | exact HB.out | apply below_alloc | apply pw_below_drewN | apply below_drew1) | exact HB.out))) : w.heap.size ≤ gb136)); have n3_ := Aside0.mk ((by rw [hg]; exact (below_size (by repeat (first | (with_reducible first | exact HB.out | apply below_alloc | apply pw_below_drewN | apply below_drew1) | exact HB.out))) : w.heap.size ≤ gb136)); clear HB; have HB := n0_; have BK136 := n1_; have GW136 := n2_; have GE136 := n3_; clear n0_ n1_ n2_ n3_; clear hb hbox hg; have hcz5_0 : w4.cell? ⟨gb136, 0, none⟩ = some (.slice A0_0 l0_0.length c0_0) := (blk_cell BK136.out 0).trans rfl; have hfz5_0 := blk_frozen BK136.out 0) | ((with_reducible refine gate_callee (f := 25) rfl ?_); refine goesL_ (some 9) rfl rfl Tryd.func25 (by kernel_rfl) rfl #[.agg #[.slice A0_0 l0_0.length c0_0]] rfl (by (try simp only [List.map_toArray, List.map_cons, List.map_nil]); first | done | rfl | (simp only [List.length_drop, List.length_take]; rfl)) ?_; (with_reducible refine (pack_Check.calls k _ _ l0_0 t137 _ ?side1 ?side2 A2.out).mono ?_); (case side1 => repeat (first | exact (Kd.C_below HR0_0.out HB.out) | (with_reducible refine Kd.C_alloc ?_ _) | (with_reducible refine Kd.C_drewN ?_ _) | (with_reducible refine Kd.C_drew ?_))); (case side2 => exact HC0_0.out); rintro e w6 ⟨rfl, hb⟩; refine ⟨_, rfl, ?_⟩; have n0_ := Aside0.mk (blk_below (g := gb136) (o := .cells #[.slice A0_0 l0_0.length c0_0] 24 (0, 0)) (by (with_reducible repeat (first | refine blk_drewN ?_ _ | refine blk_drew ?_ | refine blk_alloc ?_ _)); exact BK136.out) hb); have n1_ := Aside0.mk (below_step (by repeat (first | (with_reducible first | exact HB.out | apply below_alloc | apply pw_below_drewN | apply below_drew1 | refine below_set ?_ GE136.out) | exact HB.out)) hb); clear BK136; clear HB; have BK136 := n0_; have HB := n1_; clear n0_ n1_; (try clear hb); (try clear hb2); (try clear hk); (try clear hi); have hcz7_0 : w6.cell? ⟨gb136, 0, none⟩ = some (.slice A0_0 l0_0.length c0_0) := (blk_cell BK136.out 0).trans rfl; have hfz7_0 := blk_frozen BK136.out 0))
    go_loopg [5, 16] k (fun kq v5 v16 w' => ∃ (x5_1 : Int) (x16_1 : Int), v5 = .int .i64 x5_1 ∧ v16 = .int .i64 x16_1 ∧ Aside0 (pack_Ready.l0 kq x5_1 l0_0 (l0_0.length : Int) x16_1 = some (r1, r2)) ∧ Aside0 (kq ≤ k) ∧ Aside0 (w'.heap[gb136]? = some (.cells #[(.slice A0_0 l0_0.length c0_0)] 24 (0, 0))) ∧ Aside0 (Below w.heap.size w w'))
    case atStart => exact ⟨(0), (0), (by first | rfl | (simp; done) | (simp [*]; done)), (by first | rfl | (simp; done) | (simp [*]; done)), H', ⟨Nat.le_refl _⟩, ⟨by (with_reducible repeat (first | refine blk_drewN ?_ _ | refine blk_drew ?_ | refine blk_alloc ?_ _)); exact BK136.out⟩, ⟨by repeat (first | (with_reducible first | exact HB.out | apply below_alloc | apply pw_below_drewN | apply below_drew1 | refine below_set ?_ GE136.out) | exact HB.out)⟩⟩
    case round =>
      clear H'
      try clear c2
      try clear p2
      try clear c3
      try clear c3b0
      try clear c3b1
      try clear hcz5_0
      try clear hcz7_0
      try clear hfz5_0
      try clear hfz7_0
      obtain ⟨x5_1, x16_1, rfl, rfl, HA, HK1, BK136, HB⟩ := hrel
      cases gk with
      | zero => exact absurd HA.out (by simp [pack_Ready.l0])
      | succ k1 =>
        have H := HA.out
        clear HA
        simp only [pack_Ready.l0] at H
        by_cases c8 : x16_1 < (l0_0.length : Int)
        · rw [if_pos c8] at H
          have c8b0 : decide (x16_1 < (l0_0.length : Int)) = true := decide_eq_true c8
          clear c8
          by_cases c9 : 0 ≤ x16_1
          · rw [if_pos c9] at H
            have c9b0 : decide (0 ≤ x16_1) = true := decide_eq_true c9
            clear c9
            by_cases c10 : x16_1 < (l0_0.length : Int)
            · rw [if_pos c10] at H
              have c10b0 : decide (x16_1 < (l0_0.length : Int)) = true := decide_eq_true c10
              clear c10
              replace H := Option.bind_eq_some_iff.mp H
              obtain ⟨t140, A110, H⟩ := H
              replace H : (pack_Ready.l0 k1 (wrap64 ((wrap64 (x5_1 + (wrap64 (((rd_T48 l0_0 x16_1).f2) - ((rd_T48 l0_0 x16_1).f1))))) + t140)) l0_0 (l0_0.length : Int) (wrap64 (x16_1 + 1))) = some (r1, r2) := H
              have A11 := Aside0.mk A110
              clear A110
              have H' := Aside0.mk H
              clear H
              have p138 : 0 ≤ (x16_1 : Int) := of_decide_eq_true (by first | (with_reducible assumption) | assumption)
              have q138 : x16_1 < (l0_0.length : Int) := of_decide_eq_true (by first | (with_reducible assumption) | assumption)
              obtain ⟨ad138, e138, hx138_0, hx138_1, hx138_2⟩ := at_T48 HR0_0.out x16_1 p138 q138
              cases e138
              replace hx138_0 := (HB.out.cell (World.block_lt_of_cell? w _ hx138_0)).trans hx138_0
              replace hx138_1 := (HB.out.cell (World.block_lt_of_cell? w _ hx138_1)).trans hx138_1
              replace hx138_2 := (HB.out.cell (World.block_lt_of_cell? w _ hx138_2)).trans hx138_2
              replace p138 := eq_true p138
              replace q138 := eq_true q138
              go_wp2_with (first | ((with_reducible refine gate_dst (N := 7) rfl ?_); refine box_event ?hg (N := 7) ?hd (cs := #[.int .i64 0, .int .i64 0, .int .i64 0]) (t := 48) ?hr ?_; (case hd => rfl); (case hg => rfl); (case hr => first | (go_simp; done) | (go_simp; rfl)); intro gb139 hg w12 hbox hb; have n0_ := Aside0.mk (blk_below (g := gb136) (o := .cells #[.slice (some ad138) l0_0.length c0_0] 24 (0, 0)) (by (with_reducible repeat (first | refine blk_drewN ?_ _ | refine blk_drew ?_ | refine blk_alloc ?_ _)); exact BK136.out) hb); have n1_ := Aside0.mk (below_step (by repeat (first | (with_reducible first | exact HB.out | apply below_alloc | apply pw_below_drewN | apply below_drew1 | refine below_set ?_ GE136.out) | exact HB.out)) hb); have n2_ := Aside0.mk (hbox); have n3_ := Aside0.mk ((by rw [hg]; exact (below_size (by repeat (first | (with_reducible first | exact HB.out | apply below_alloc | apply pw_below_drewN | apply below_drew1 | refine below_set ?_ GE136.out) | exact HB.out))) : w.heap.size ≤ gb139)); have n4_ := Aside0.mk ((by rw [hg]; exact (below_size (by repeat (first | (with_reducible first | exact HB.out | apply below_alloc | apply pw_below_drewN | apply below_drew1 | refine below_set ?_ GE136.out) | exact HB.out))) : w.heap.size ≤ gb139)); have n5_ := Aside0.mk ((by rw [hg]; exact Nat.ne_of_lt (blk_lt (g := gb136) (o := .cells #[.slice (some ad138) l0_0.length c0_0] 24 (0, 0)) (by (with_reducible repeat (first | refine blk_drewN ?_ _ | refine blk_drew ?_ | refine blk_alloc ?_ _)); exact BK136.out)) : gb136 ≠ gb139)); have n6_ := Aside0.mk ((by rw [hg]; exact Nat.ne_of_gt (blk_lt (g := gb136) (o := .cells #[.slice (some ad138) l0_0.length c0_0] 24 (0, 0)) (by (with_reducible repeat (first | refine blk_drewN ?_ _ | refine blk_drew ?_ | refine blk_alloc ?_ _)); exact BK136.out)) : gb139 ≠ gb136)); clear BK136; clear HB; have BK136 := n0_; have HB := n1_; have BK139 := n2_; have GW139 := n3_; have GE139 := n4_; have NB136_139 := n5_; have NB139_136 := n6_; clear n0_ n1_ n2_ n3_ n4_ n5_ n6_; clear hb hbox hg; have hnb13 := NB139_136.out; have hnc13 := NB136_139.out; have hcz14_0 : w12.cell? ⟨gb139, 0, none⟩ = some (.int .i64 0) := (blk_cell BK139.out 0).trans rfl; have hcz14_1 : w12.cell? ⟨gb139, 1, none⟩ = some (.int .i64 0) := (blk_cell BK139.out 1).trans rfl; have hcz14_2 : w12.cell? ⟨gb139, 2, none⟩ = some (.int .i64 0) := (blk_cell BK139.out 2).trans rfl; have hfz14_0 := blk_frozen BK139.out 0; have hfz14_1 := blk_frozen BK139.out 1; have hfz14_2 := blk_frozen BK139.out 2) | ((with_reducible refine gate_callee (f := 65) rfl ?_); refine goesL_ (some 35) rfl rfl Tryd.func65 (by kernel_rfl) rfl #[.agg #[.int .i64 (wrap64 (((rd_T48 l0_0 x16_1).f0) + ((rd_T48 l0_0 x16_1).f2))), .int .i64 ((rd_T48 l0_0 x16_1).f1), .int .i64 ((rd_T48 l0_0 x16_1).f2)]] rfl (by (try simp only [List.map_toArray, List.map_cons, List.map_nil]); first | done | rfl | (simp only [List.length_drop, List.length_take]; rfl)) ?_; (with_reducible refine (pack_hold.calls (wrap64 (((rd_T48 l0_0 x16_1).f0) + ((rd_T48 l0_0 x16_1).f2))) ((rd_T48 l0_0 x16_1).f1) ((rd_T48 l0_0 x16_1).f2) t140 _ A11.out).mono ?_); rintro e w15 ⟨rfl, hb⟩; refine ⟨_, rfl, ?_⟩; have n0_ := Aside0.mk (blk_below (g := gb136) (o := .cells #[.slice (some ad138) l0_0.length c0_0] 24 (0, 0)) (by (with_reducible repeat (first | refine blk_drewN ?_ _ | refine blk_drew ?_ | refine blk_alloc ?_ _)); refine blk_far ?_ NB136_139.out _; (with_reducible repeat (first | refine blk_drewN ?_ _ | refine blk_drew ?_ | refine blk_alloc ?_ _)); refine blk_far ?_ NB136_139.out _; (with_reducible repeat (first | refine blk_drewN ?_ _ | refine blk_drew ?_ | refine blk_alloc ?_ _)); refine blk_far ?_ NB136_139.out _; (with_reducible repeat (first | refine blk_drewN ?_ _ | refine blk_drew ?_ | refine blk_alloc ?_ _)); refine blk_far ?_ NB136_139.out _; (with_reducible repeat (first | refine blk_drewN ?_ _ | refine blk_drew ?_ | refine blk_alloc ?_ _)); exact BK136.out) hb); have n1_ := Aside0.mk (blk_below (g := gb139) (o := .cells #[.int .i64 (wrap64 (((rd_T48 l0_0 x16_1).f0) + ((rd_T48 l0_0 x16_1).f2))), .int .i64 ((rd_T48 l0_0 x16_1).f1), .int .i64 ((rd_T48 l0_0 x16_1).f2)] 48 (0, 0)) (by (with_reducible repeat (first | refine blk_drewN ?_ _ | refine blk_drew ?_ | refine blk_alloc ?_ _)); refine blk_put (cs := #[.int .i64 ((rd_T48 l0_0 x16_1).f0), .int .i64 ((rd_T48 l0_0 x16_1).f1), .int .i64 ((rd_T48 l0_0 x16_1).f2)]) ?_ 0 _ rfl; (with_reducible repeat (first | refine blk_drewN ?_ _ | refine blk_drew ?_ | refine blk_alloc ?_ _)); refine blk_put (cs := #[.int .i64 ((rd_T48 l0_0 x16_1).f0), .int .i64 ((rd_T48 l0_0 x16_1).f1), .int .i64 0]) ?_ 2 _ rfl; (with_reducible repeat (first | refine blk_drewN ?_ _ | refine blk_drew ?_ | refine blk_alloc ?_ _)); refine blk_put (cs := #[.int .i64 ((rd_T48 l0_0 x16_1).f0), .int .i64 0, .int .i64 0]) ?_ 1 _ rfl; (with_reducible repeat (first | refine blk_drewN ?_ _ | refine blk_drew ?_ | refine blk_alloc ?_ _)); refine blk_put (cs := #[.int .i64 0, .int .i64 0, .int .i64 0]) ?_ 0 _ rfl; (with_reducible repeat (first | refine blk_drewN ?_ _ | refine blk_drew ?_ | refine blk_alloc ?_ _)); exact BK139.out) hb); have n2_ := Aside0.mk (below_step (by repeat (first | (with_reducible first | exact HB.out | apply below_alloc | apply pw_below_drewN | apply below_drew1 | refine below_set ?_ GE136.out | refine below_set ?_ GE139.out) | exact HB.out)) hb); clear BK136; clear BK139; clear HB; have BK136 := n0_; have BK139 := n1_; have HB := n2_; clear n0_ n1_ n2_; (try clear hb); (try clear hb2); (try clear hk); (try clear hi)))
              go_roundg k1
              case measure => have := HK1.out; omega
              case rel => exact ⟨(wrap64 ((wrap64 (x5_1 + (wrap64 (((rd_T48 l0_0 x16_1).f2) - ((rd_T48 l0_0 x16_1).f1))))) + t140)), (wrap64 (x16_1 + 1)), (by first | rfl | (simp; done) | (simp [*]; done)), (by first | rfl | (simp; done) | (simp [*]; done)), H', ⟨by have := HK1.out; omega⟩, ⟨by (with_reducible repeat (first | refine blk_drewN ?_ _ | refine blk_drew ?_ | refine blk_alloc ?_ _)); exact BK136.out⟩, ⟨by repeat (first | (with_reducible first | exact HB.out | apply below_alloc | apply pw_below_drewN | apply below_drew1 | refine below_set ?_ GE136.out | refine below_set ?_ GE139.out) | exact HB.out)⟩⟩
            · rw [if_neg c10] at H
              exact absurd H (by simp)
          · rw [if_neg c9] at H
            exact absurd H (by simp)
        · rw [if_neg c8] at H
          have c8b0 : decide (x16_1 < (l0_0.length : Int)) = false := decide_eq_false c8
          clear c8
          simp only [Option.some.injEq, Prod.mk.injEq] at H
          obtain ⟨rfl, rfl⟩ := H
          go_wp2
          go_ret2
          exact ⟨by first | rfl | (simp [errW_none, errW_some] <;> rfl) | (simp [*, errW_none, errW_some] <;> rfl), by repeat (first | (with_reducible first | exact HB.out | apply below_alloc | apply pw_below_drewN | apply below_drew1 | refine below_set ?_ GE136.out) | exact HB.out)⟩
  · rw [if_neg c3] at H
    have c3b0 : (t137 == 0) = false := beq_eq_false_iff_ne.mpr c3
    have c3b1 : (t137 != 0) = true := bne_iff_ne.mpr c3
    simp only [Option.some.injEq, Prod.mk.injEq] at H
    obtain ⟨rfl, rfl⟩ := H
    go_enter Tryd.func26, Tryd.ntmps26
    go_wp2_with (first | ((with_reducible refine gate_dst (N := 1) rfl ?_); refine box_event ?hg (N := 1) ?hd (cs := #[.slice A0_0 l0_0.length c0_0]) (t := 24) ?hr ?_; (case hd => rfl); (case hg => rfl); (case hr => first | (go_simp; done) | (go_simp; rfl)); intro gb136 hg w16 hbox hb; have n0_ := Aside0.mk (below_step (by repeat (first | (with_reducible first | exact HB.out | apply below_alloc | apply pw_below_drewN | apply below_drew1) | exact HB.out)) hb); have n1_ := Aside0.mk (hbox); have n2_ := Aside0.mk ((by rw [hg]; exact (below_size (by repeat (first | (with_reducible first | exact HB.out | apply below_alloc | apply pw_below_drewN | apply below_drew1) | exact HB.out))) : w.heap.size ≤ gb136)); have n3_ := Aside0.mk ((by rw [hg]; exact (below_size (by repeat (first | (with_reducible first | exact HB.out | apply below_alloc | apply pw_below_drewN | apply below_drew1) | exact HB.out))) : w.heap.size ≤ gb136)); clear HB; have HB := n0_; have BK136 := n1_; have GW136 := n2_; have GE136 := n3_; clear n0_ n1_ n2_ n3_; clear hb hbox hg; have hcz17_0 : w16.cell? ⟨gb136, 0, none⟩ = some (.slice A0_0 l0_0.length c0_0) := (blk_cell BK136.out 0).trans rfl; have hfz17_0 := blk_frozen BK136.out 0) | ((with_reducible refine gate_callee (f := 25) rfl ?_); refine goesL_ (some 9) rfl rfl Tryd.func25 (by kernel_rfl) rfl #[.agg #[.slice A0_0 l0_0.length c0_0]] rfl (by (try simp only [List.map_toArray, List.map_cons, List.map_nil]); first | done | rfl | (simp only [List.length_drop, List.length_take]; rfl)) ?_; (with_reducible refine (pack_Check.calls k _ _ l0_0 t137 _ ?side1 ?side2 A2.out).mono ?_); (case side1 => repeat (first | exact (Kd.C_below HR0_0.out HB.out) | (with_reducible refine Kd.C_alloc ?_ _) | (with_reducible refine Kd.C_drewN ?_ _) | (with_reducible refine Kd.C_drew ?_))); (case side2 => exact HC0_0.out); rintro e w18 ⟨rfl, hb⟩; refine ⟨_, rfl, ?_⟩; have n0_ := Aside0.mk (blk_below (g := gb136) (o := .cells #[.slice A0_0 l0_0.length c0_0] 24 (0, 0)) (by (with_reducible repeat (first | refine blk_drewN ?_ _ | refine blk_drew ?_ | refine blk_alloc ?_ _)); exact BK136.out) hb); have n1_ := Aside0.mk (below_step (by repeat (first | (with_reducible first | exact HB.out | apply below_alloc | apply pw_below_drewN | apply below_drew1 | refine below_set ?_ GE136.out) | exact HB.out)) hb); clear BK136; clear HB; have BK136 := n0_; have HB := n1_; clear n0_ n1_; (try clear hb); (try clear hb2); (try clear hk); (try clear hi)))
    go_ret2
    exact ⟨by first | rfl | (simp [errW_none, errW_some] <;> rfl) | (simp [*, errW_none, errW_some] <;> rfl), by repeat (first | (with_reducible first | exact HB.out | apply below_alloc | apply pw_below_drewN | apply below_drew1 | refine below_set ?_ GE136.out) | exact HB.out)⟩
end Go.Proofs.YtpldcikmlpegpaaDoor.PB
end
section
namespace Go.Proofs.YtpldcikmlpegpaaDoor.PB
open Go.RowKit Go.Proofs.YtpldcikmlpegpaaDoorW.PrintWords Go.Proofs.YtpldcikmlpegpaaDoorW.PrintLast Go.Proofs.YtpldcikmlpegpaaDoorW.PrintMore
structure KeepS (S : Nat → Prop) (w w' : World) : Prop where
  os : w'.os = w.os
  tape : w'.tape = w.tape
  output : w'.output = w.output
  size : w.heap.size ≤ w'.heap.size
  block : ∀ k, k < w.heap.size → ¬ S k → w'.heap[k]? = w.heap[k]?
section
variable {S : Nat → Prop}
theorem KeepS.refl (S : Nat → Prop) (w : World) : KeepS S w w := ⟨rfl, rfl, rfl, Nat.le_refl _, fun _ _ _ => rfl⟩
theorem KeepS.trans {a b c : World} (h : KeepS S a b) (k : KeepS S b c) : KeepS S a c :=
  ⟨k.os.trans h.os, k.tape.trans h.tape, k.output.trans h.output, Nat.le_trans h.size k.size, fun i hi hg => (k.block i (Nat.lt_of_lt_of_le hi h.size) hg).trans (h.block i hi hg)⟩
theorem KeepS.of_below {w w' : World} (h : Below w.heap.size w w') : KeepS S w w' := ⟨h.os, h.tape, h.output, h.size, fun k hk _ => h.block k hk⟩
theorem KeepS.below {B : Nat} {w0 w w' : World} (h : KeepS S w w') (hb : Below B w0 w) (hB : ∀ k, S k → B ≤ k) (hs : B ≤ w.heap.size) : Below B w0 w' :=
  ⟨h.os.trans hb.os, h.tape.trans hb.tape, h.output.trans hb.output, Nat.le_trans hb.size h.size, fun k hk => (h.block k (by omega) (fun hS => by have := hB k hS; omega)).trans (hb.block k hk)⟩
theorem KeepS.set {g : Nat} (hg : S g) (w : World) (i : Nat) (v : Value) : KeepS S w (w.setCell ⟨g, i, none⟩ v) := by
  refine ⟨?_, ?_, ?_, ?_, fun k hk hS => Below.heap_setCell w ⟨g, i, none⟩ v k (fun e => hS (e ▸ hg))⟩
  all_goals (unfold World.setCell; first | rfl | (split <;> first | rfl | simp) | simp)
theorem KeepS.drew (w : World) : KeepS S w w.drew := ⟨rfl, rfl, rfl, Nat.le_refl _, fun _ _ _ => rfl⟩
theorem KeepS.drewN (w : World) (n : Nat) : KeepS S w (w.drewN n) := ⟨rfl, rfl, rfl, Nat.le_refl _, fun _ _ _ => rfl⟩
theorem KeepS.alloc (w : World) (o : Obj) : KeepS S w (w.alloc o) := KeepS.of_below ((Below.refl _ _).alloc (Nat.le_refl _) _)
theorem KeepS.blk {k : Nat} {w w' : World} {o : Obj} (h : KeepS S w w') (hb : w.heap[k]? = some o) (hg : ¬ S k) : w'.heap[k]? = some o := (h.block k (blk_lt hb) hg).trans hb
theorem KeepS.mono {T : Nat → Prop} {w w' : World} (h : KeepS S w w') (hT : ∀ k, S k → T k) : KeepS T w w' := ⟨h.os, h.tape, h.output, h.size, fun k hk hn => h.block k hk (fun hs => hn (hT k hs))⟩
end
theorem keep9c {W0 w' : World} {a0 a1 a2 a3 a4 a5 a6 a7 a8 : Addr} {v0 v1 v2 v3 v4 v5 v6 v7 v8 : Value} (h0 : W0.cell? a0 = some v0) (h1 : W0.cell? a1 = some v1) (h2 : W0.cell? a2 = some v2) (h3 : W0.cell? a3 = some v3) (h4 : W0.cell? a4 = some v4) (h5 : W0.cell? a5 = some v5) (h6 : W0.cell? a6 = some v6) (h7 : W0.cell? a7 = some v7) (h8 : W0.cell? a8 = some v8) (hb : Below W0.heap.size W0 w') : w'.cell? a0 = some v0 ∧ w'.cell? a1 = some v1 ∧ w'.cell? a2 = some v2 ∧ w'.cell? a3 = some v3 ∧ w'.cell? a4 = some v4 ∧ w'.cell? a5 = some v5 ∧ w'.cell? a6 = some v6 ∧ w'.cell? a7 = some v7 ∧ w'.cell? a8 = some v8 ∧ Below W0.heap.size W0 w' :=
  ⟨pw_cell_below hb h0, pw_cell_below hb h1, pw_cell_below hb h2, pw_cell_below hb h3, pw_cell_below hb h4, pw_cell_below hb h5, pw_cell_below hb h6, pw_cell_below hb h7, pw_cell_below hb h8, hb⟩
end Go.Proofs.YtpldcikmlpegpaaDoor.PB
end
section
namespace Go.Proofs.YtpldcikmlpegpaaDoor.PB
open Go.RowKit Go.Proofs.YtpldcikmlpegpaaDoorW.PrintWords Go.Proofs.YtpldcikmlpegpaaDoorW.PrintLast Go.Proofs.YtpldcikmlpegpaaDoorW.PrintMore
attribute [local go_sem] max2_int min2_int max_two min_two
def strW (l : S48) : Int := wrap64 ((wrap64 ((wrap64 (10 * l.f0)) + l.f2)) - (wrap64 (40 * l.f1)))
theorem str_calls (l : S48) (w : World) :
    Calls Tryd.prog 77 #[.agg #[.int .i64 l.f0, .int .i64 l.f1, .int .i64 l.f2]] w fun e w' => e = .returned (.int .i64 (strW l)) ∧ Below w.heap.size w w' :=
  pack_strength.calls l.f0 l.f1 l.f2 (strW l) w rfl
def weak1 (l : List S48) (i load : Int) (x : S48) (s : Int × Int) : Int × Int :=
  if wrap64 (s.2 * strW x) < wrap64 (load * strW (l.getD s.1.toNat z48)) then (i, load) else s
set_option maxRecDepth 100000 in
set_option maxHeartbeats 1000000 in
theorem weak_calls (A : Option Addr) (cap : Nat) (l : List S48) (x : S48) (i load at_ most : Int) (b1 b2 b3 : Nat) (w : World) (hr : Kd.C k48 w A l.length l) (h0 : 0 ≤ at_) (h1 : at_ < l.length)
    (p1 : w.heap[b1]? = some (.cells #[.slice A l.length cap] 24 (0, 0))) (p2 : w.heap[b2]? = some (.cells #[.int .i64 at_] 3 (0, 0))) (p3 : w.heap[b3]? = some (.cells #[.int .i64 most] 3 (0, 0))) (h23 : b2 ≠ b3) (h12 : b1 ≠ b2) (h13 : b1 ≠ b3) :
    Calls Tryd.prog 76 #[.int .i64 i, .int .i64 load, .agg #[.int .i64 x.f0, .int .i64 x.f1, .int .i64 x.f2], .pointer (some ⟨b1, 0, none⟩), .pointer (some ⟨b2, 0, none⟩), .pointer (some ⟨b3, 0, none⟩)] w fun e w' => e = .returned (.bool true) ∧
      w'.heap[b2]? = some (.cells #[.int .i64 (weak1 l i load x (at_, most)).1] 3 (0, 0)) ∧ w'.heap[b3]? = some (.cells #[.int .i64 (weak1 l i load x (at_, most)).2] 3 (0, 0)) ∧ KeepS (fun k => k = b2 ∨ k = b3) w w' := by
  have hu24 := Tryd.underlying24
  have hu48 := Tryd.underlying48
  have HR := Aside0.mk hr
  have P1 := Aside0.mk p1
  have P2 := Aside0.mk p2
  have P3 := Aside0.mk p3
  have l1 := blk_lt p1
  have l2 := blk_lt p2
  have l3 := blk_lt p3
  clear hr p1 p2 p3
  go_enter Tryd.func76, Tryd.ntmps76
  go_wp2
  obtain ⟨B, hB⟩ : ∃ B, w.heap.size = B := ⟨_, rfl⟩
  have hbx := blk_new w (.cells #[.int .i64 x.f0, .int .i64 x.f1, .int .i64 x.f2] 48 (0, 0))
  have hbl := (Below.refl w.heap.size w).alloc (Nat.le_refl _) (.cells #[.int .i64 x.f0, .int .i64 x.f1, .int .i64 x.f2] 48 (0, 0))
  generalize w.alloc (.cells #[.int .i64 x.f0, .int .i64 x.f1, .int .i64 x.f2] 48 (0, 0)) = W0 at hbx hbl ⊢
  have HBL := Aside0.mk hbl
  obtain ⟨ad, rfl, y0, y1, y2⟩ := at_T48 (Kd.C_below HR.out hbl) at_ h0 h1
  obtain ⟨y, hy⟩ : ∃ y, rd_T48 l at_ = y := ⟨_, rfl⟩
  rw [hy] at y0 y1 y2
  have HY : Aside0 (l.getD at_.toNat z48 = y) := ⟨hy⟩
  have g1 : W0.cell? ⟨b1, 0, none⟩ = some (.slice (some ad) l.length cap) := (blk_cell (blk_below P1.out hbl) 0).trans rfl
  have g2 : W0.cell? ⟨b2, 0, none⟩ = some (.int .i64 at_) := (blk_cell (blk_below P2.out hbl) 0).trans rfl
  have g3 : W0.cell? ⟨b3, 0, none⟩ = some (.int .i64 most) := (blk_cell (blk_below P3.out hbl) 0).trans rfl
  rw [hB] at hbx ⊢
  have g4 : W0.cell? ⟨B, 0, none⟩ = some (.int .i64 x.f0) := (blk_cell hbx 0).trans rfl
  have g5 : W0.cell? ⟨B, 1, none⟩ = some (.int .i64 x.f1) := (blk_cell hbx 1).trans rfl
  have g6 : W0.cell? ⟨B, 2, none⟩ = some (.int .i64 x.f2) := (blk_cell hbx 2).trans rfl
  have q0 := eq_true h0
  have q1 := eq_true h1
  clear hbx hbl hy h0 h1
  go_region_held3 (fun w' => w'.cell? ⟨b1, 0, none⟩ = some (.slice (some ad) l.length cap) ∧ w'.cell? ⟨b2, 0, none⟩ = some (.int .i64 at_) ∧ w'.cell? ⟨b3, 0, none⟩ = some (.int .i64 most) ∧ w'.cell? ⟨B, 0, none⟩ = some (.int .i64 x.f0) ∧ w'.cell? ⟨B, 1, none⟩ = some (.int .i64 x.f1) ∧ w'.cell? ⟨B, 2, none⟩ = some (.int .i64 x.f2) ∧ w'.cell? (ad.add (at_.toNat * 3)) = some (.int .i64 y.f0) ∧ w'.cell? ⟨(ad.add (at_.toNat * 3)).block, (ad.add (at_.toNat * 3)).off + 1, none⟩ = some (.int .i64 y.f1) ∧ w'.cell? ⟨(ad.add (at_.toNat * 3)).block, (ad.add (at_.toNat * 3)).off + 2, none⟩ = some (.int .i64 y.f2) ∧ Below W0.heap.size W0 w')
    ((go_split_ands; refine keep9c g1 g2 g3 g4 g5 g6 y0 y1 y2 ?_; first | assumption | exact (Below.refl _ _).drew | exact below_step (by assumption) (by assumption)))
    (first | (go_at_call 77; (with_reducible refine (str_calls y _).mono ?_); rintro e w' ⟨rfl, hb⟩) | (go_at_call 77; (with_reducible refine (str_calls x _).mono ?_); rintro e w' ⟨rfl, hb⟩))
  rename_i w8 hb8 hHeld
  obtain ⟨s1, s2, s3, s4, s5, s6, s7, s8, s9, hB2⟩ := hHeld
  have HB2 := Aside0.mk hB2
  have HBw := Aside0.mk hB
  have HP2 := Aside0.mk (blk_below (blk_below P2.out HBL.out) hB2)
  have HP3 := Aside0.mk (blk_below (blk_below P3.out HBL.out) hB2)
  have f2 := blk_frozen HP2.out 0
  have f3 := blk_frozen HP3.out 0
  clear g1 g2 g3 g4 g5 g6 y0 y1 y2 s1 s4 s5 s6 s7 s8 s9 hB2 hb8 hb hB
  simp only [i64_w]
  by_cases ht : wrap64 (most * strW x) < wrap64 (load * strW y)
  · have z0 : decide (wrap64 (most * strW x) < wrap64 (load * strW y)) = true := decide_eq_true ht
    have HW : Aside0 (weak1 l i load x (at_, most) = (i, load)) := ⟨by simp only [weak1, HY.out, if_pos ht]⟩
    clear ht
    rw [z0]
    go_wp2
    go_ret
    rw [HW.out]
    refine ⟨rfl, ?_, ?_, ?_⟩
    · exact blk_far (blk_put (cs := #[.int .i64 at_]) HP2.out 0 _ rfl) h23 _
    · exact blk_put (cs := #[.int .i64 most]) (blk_far HP3.out (Ne.symm h23) _) 0 _ rfl
    · exact ((KeepS.of_below HBL.out).trans (KeepS.of_below HB2.out)).trans ((KeepS.set (.inl rfl) _ _ _).trans (KeepS.set (.inr rfl) _ _ _))
  · have z0 : decide (wrap64 (most * strW x) < wrap64 (load * strW y)) = false := decide_eq_false ht
    have HW : Aside0 (weak1 l i load x (at_, most) = (at_, most)) := ⟨by simp only [weak1, HY.out, if_neg ht]⟩
    clear ht
    rw [z0]
    go_wp2
    go_ret
    rw [HW.out]
    exact ⟨rfl, HP2.out, HP3.out, (KeepS.of_below HBL.out).trans (KeepS.of_below HB2.out)⟩
theorem read_keep {w w' : World} {A : Option Addr} {l : List S48} {b2 b3 : Nat} (hr : Kd.C k48 w A l.length l) (hk : KeepS (fun k => k = b2 ∨ k = b3) w w') (hd : 0 < l.length → ∀ ad, A = some ad → ad.block ≠ b2 ∧ ad.block ≠ b3) : Kd.C k48 w' A l.length l := by
  refine ⟨hr.1, hr.2.1, fun hn => ?_⟩
  obtain ⟨ad, e, hc⟩ := hr.2.2 hn
  refine ⟨ad, e, fun j p hj => ?_⟩
  obtain ⟨c, h1, h2, h3⟩ := hc j p hj
  refine ⟨c, h1, h2, fun i u hu => ?_⟩
  have hcell := h3 i u hu
  have hlt := World.block_lt_of_cell? w _ hcell
  have hb : (ad.add (j * k48.sz + i)).block = ad.block := by unfold Addr.add; split <;> rfl
  have hne := hd hn ad e
  unfold World.cell? at hcell ⊢
  rw [hk.block _ hlt (by rw [hb]; intro h; rcases h with h | h; exact hne.1 h; exact hne.2 h)]
  exact hcell
def weakAt (l : List S48) : Nat → Nat → Int → Int × Int → Int × Int
  | 0, _, _, s => s
  | d + 1, i, load, s => weakAt l d (i + 1) (wrap64 (load + wrap64 ((l.getD i z48).f0 + (l.getD i z48).f1))) (weak1 l i load (l.getD i z48) s)
set_option maxRecDepth 100000 in
set_option maxHeartbeats 1000000 in
theorem each_weak (A : Option Addr) (cap : Nat) (l : List S48) (at_ most : Int) (b1 b2 b3 : Nat) (w : World) (hr : Kd.C k48 w A l.length l) (h0 : 0 ≤ at_) (h1 : at_ < l.length)
    (p1 : w.heap[b1]? = some (.cells #[.slice A l.length cap] 24 (0, 0))) (p2 : w.heap[b2]? = some (.cells #[.int .i64 at_] 3 (0, 0))) (p3 : w.heap[b3]? = some (.cells #[.int .i64 most] 3 (0, 0))) (h23 : b2 ≠ b3) (h12 : b1 ≠ b2) (h13 : b1 ≠ b3)
    (hd : 0 < l.length → ∀ ad, A = some ad → ad.block ≠ b2 ∧ ad.block ≠ b3) :
    Calls Tryd.prog 75 #[.agg #[.slice A l.length cap], .func (.func 76) #[] #[.pointer (some ⟨b1, 0, none⟩), .pointer (some ⟨b2, 0, none⟩), .pointer (some ⟨b3, 0, none⟩)]] w fun e w' => e = .returned (.tuple #[]) ∧
      w'.heap[b2]? = some (.cells #[.int .i64 (weakAt l l.length 0 0 (at_, most)).1] 3 (0, 0)) ∧ w'.heap[b3]? = some (.cells #[.int .i64 (weakAt l l.length 0 0 (at_, most)).2] 3 (0, 0)) ∧ KeepS (fun k => k = b2 ∨ k = b3) w w' := by
  have hu24 := Tryd.underlying24
  have hu48 := Tryd.underlying48
  have HR := Aside0.mk hr
  have P1 := Aside0.mk p1
  have P2 := Aside0.mk p2
  have P3 := Aside0.mk p3
  have hlen : l.length ≤ 9223372036854775807 := hr.2.1
  clear hr p1 p2 p3
  go_enter Tryd.func75, Tryd.ntmps75
  go_wp2
  go_loopg [4, 10] l.length (fun dq v4 v10 w' => ∃ (j : Nat) (load : Int) (s : Int × Int), v4 = .int .i64 load ∧ v10 = .int .i64 j ∧ j ≤ l.length ∧ dq = l.length - j ∧ 0 ≤ s.1 ∧ s.1 < l.length ∧ Aside0 (weakAt l dq j load s = weakAt l l.length 0 0 (at_, most)) ∧
    Aside0 (w'.heap[b2]? = some (.cells #[.int .i64 s.1] 3 (0, 0))) ∧ Aside0 (w'.heap[b3]? = some (.cells #[.int .i64 s.2] 3 (0, 0))) ∧ Aside0 (KeepS (fun k => k = b2 ∨ k = b3) w w'))
  case atStart => exact ⟨0, 0, (at_, most), rfl, rfl, Nat.zero_le _, rfl, h0, h1, ⟨rfl⟩, ⟨blk_alloc P2.out _⟩, ⟨blk_alloc P3.out _⟩, ⟨KeepS.alloc _ _⟩⟩
  case round =>
    obtain ⟨j, load, ⟨sa, sm⟩, rfl, rfl, hj, hdq, s0, s1, HE, Q2, Q3, HK⟩ := hrel
    have HRj : Aside0 (Kd.C k48 wr A l.length l) := ⟨read_keep HR.out HK.out hd⟩
    by_cases hlt : j < l.length
    · have t1 : decide (j < l.length) = true := decide_eq_true hlt
      obtain ⟨ad, hA, y0, y1, y2⟩ := at_T48 HRj.out (j : Int) (by omega) (by omega)
      subst hA
      obtain ⟨y, hy⟩ : ∃ y, rd_T48 l (j : Int) = y := ⟨_, rfl⟩
      rw [hy] at y0 y1 y2
      simp only [Int.toNat_natCast] at y0 y1 y2
      have HY : Aside0 (l.getD j z48 = y) := ⟨hy⟩
      clear hy
      go_upto_region 5 with (fail)
      obtain ⟨p, hp⟩ : ∃ p, wr.heap.size = p := ⟨_, rfl⟩
      have hbx := blk_new wr (.cells #[.int .i64 y.f0, .int .i64 y.f1, .int .i64 y.f2] 48 (0, 0))
      have hbl := (Below.refl wr.heap.size wr).alloc (Nat.le_refl _) (.cells #[.int .i64 y.f0, .int .i64 y.f1, .int .i64 y.f2] 48 (0, 0))
      generalize wr.alloc (.cells #[.int .i64 y.f0, .int .i64 y.f1, .int .i64 y.f2] 48 (0, 0)) = W3 at hbx hbl ⊢
      have HBL := Aside0.mk hbl
      have hne : p ≠ b2 ∧ p ≠ b3 := by have h2 := blk_lt P2.out; have h3 := blk_lt P3.out; have := HK.out.size; omega
      have HNE := Aside0.mk hne
      rw [hp] at hbx ⊢
      have HBX := Aside0.mk hbx
      have HP1 : Aside0 (W3.heap[b1]? = some (.cells #[.slice (some ad) l.length cap] 24 (0, 0))) := ⟨blk_below (HK.out.blk P1.out (by omega)) hbl⟩
      have HQ2 := Aside0.mk (blk_below Q2.out hbl)
      have HQ3 := Aside0.mk (blk_below Q3.out hbl)
      have HR3 := Aside0.mk (Kd.C_below HRj.out hbl)
      have c0 : W3.cell? ⟨p, 0, none⟩ = some (.int .i64 y.f0) := (blk_cell hbx 0).trans rfl
      have c1 : W3.cell? ⟨p, 1, none⟩ = some (.int .i64 y.f1) := (blk_cell hbx 1).trans rfl
      have c2 : W3.cell? ⟨p, 2, none⟩ = some (.int .i64 y.f2) := (blk_cell hbx 2).trans rfl
      clear hbx hbl hne hp y0 y1 y2
      go_wp2_with (first | (go_at_call 76; refine (weak_calls (some ad) cap l y (j : Int) load sa sm b1 b2 b3 _ HR3.out s0 s1 HP1.out HQ2.out HQ3.out h23 h12 h13).mono ?_; rintro e w4 ⟨rfl, g2, g3, gk⟩; have G2 := Aside0.mk g2; have G3 := Aside0.mk g3; have GK := Aside0.mk gk; have hbx4 := gk.blk HBX.out (fun h => by have := HNE.out; omega); have d0 : w4.cell? ⟨p, 0, none⟩ = some (.int .i64 y.f0) := (blk_cell hbx4 0).trans rfl; have d1 : w4.cell? ⟨p, 1, none⟩ = some (.int .i64 y.f1) := (blk_cell hbx4 1).trans rfl; clear g2 g3 gk hbx4 c0 c1 c2))
      go_roundg (l.length - (j + 1))
      case measure => omega
      case rel =>
        refine ⟨j + 1, wrap64 (load + wrap64 (y.f0 + y.f1)), weak1 l j load y (sa, sm), rfl, by go_num, by omega, rfl, ?_, ?_, ⟨?_⟩, G2, G3, ⟨(HK.out.trans (KeepS.of_below HBL.out)).trans GK.out⟩⟩
        · unfold weak1; split
          · dsimp only; omega
          · exact s0
        · unfold weak1; split
          · dsimp only; omega
          · exact s1
        · have e : gk = (l.length - (j + 1)) + 1 := by omega
          rw [← HE.out, e]
          simp only [weakAt, HY.out]
    · have t1 : decide (j < l.length) = false := decide_eq_false hlt
      go_wp2
      go_end0
      have e : gk = 0 := by omega
      have h := HE.out
      rw [e] at h
      rw [← h]
      exact ⟨rfl, Q2.out, Q3.out, HK.out⟩
def brk1 (steep load : Int) (x : S48) : Bool := decide (wrap64 (3 * strW x) < wrap64 (load * wrap64 (steep - 25)))
set_option maxRecDepth 100000 in
set_option maxHeartbeats 1000000 in
theorem brk_calls (x : S48) (i load steep : Int) (bv : Bool) (b1 b2 : Nat) (w : World)
    (p1 : w.heap[b1]? = some (.cells #[.int .i64 steep] 3 (0, 0))) (p2 : w.heap[b2]? = some (.cells #[.bool bv] 4 (0, 0))) (_h12 : b1 ≠ b2) :
    Calls Tryd.prog 94 #[.int .i64 i, .int .i64 load, .agg #[.int .i64 x.f0, .int .i64 x.f1, .int .i64 x.f2], .pointer (some ⟨b1, 0, none⟩), .pointer (some ⟨b2, 0, none⟩)] w fun e w' => e = .returned (.bool (!brk1 steep load x)) ∧
      w'.heap[b2]? = some (.cells #[.bool (brk1 steep load x)] 4 (0, 0)) ∧ KeepS (fun k => k = b2) w w' := by
  have hu48 := Tryd.underlying48
  have P1 := Aside0.mk p1
  have P2 := Aside0.mk p2
  have l1 := blk_lt p1
  have l2 := blk_lt p2
  clear p1 p2
  go_enter Tryd.func94, Tryd.ntmps94
  go_upto_region 1 with (fail)
  obtain ⟨B, hB⟩ : ∃ B, w.heap.size = B := ⟨_, rfl⟩
  have hbx := blk_new w (.cells #[.int .i64 x.f0, .int .i64 x.f1, .int .i64 x.f2] 48 (0, 0))
  have hbl := (Below.refl w.heap.size w).alloc (Nat.le_refl _) (.cells #[.int .i64 x.f0, .int .i64 x.f1, .int .i64 x.f2] 48 (0, 0))
  generalize w.alloc (.cells #[.int .i64 x.f0, .int .i64 x.f1, .int .i64 x.f2] 48 (0, 0)) = W0 at hbx hbl ⊢
  have HBL := Aside0.mk hbl
  have HP1 := Aside0.mk (blk_below P1.out hbl)
  have HP2 := Aside0.mk (blk_below P2.out hbl)
  rw [hB] at hbx ⊢
  have g1 : W0.cell? ⟨b1, 0, none⟩ = some (.int .i64 steep) := (blk_cell HP1.out 0).trans rfl
  have g2 : W0.cell? ⟨b2, 0, none⟩ = some (.bool bv) := (blk_cell HP2.out 0).trans rfl
  have f2 := blk_frozen HP2.out 0
  have g4 : W0.cell? ⟨B, 0, none⟩ = some (.int .i64 x.f0) := (blk_cell hbx 0).trans rfl
  have g5 : W0.cell? ⟨B, 1, none⟩ = some (.int .i64 x.f1) := (blk_cell hbx 1).trans rfl
  have g6 : W0.cell? ⟨B, 2, none⟩ = some (.int .i64 x.f2) := (blk_cell hbx 2).trans rfl
  clear hbx hbl hB l1 l2
  go_region_with (go_at_call 77; (with_reducible refine (str_calls x _).mono ?_); rintro e w' ⟨rfl, hb⟩; have HB' : Aside0 (Below W0.heap.size W0 w') := ⟨Below.trans ((Below.refl _ _).drew) hb⟩; have k1 := pw_cell_below HB'.out g1; have k2 := pw_cell_below HB'.out g2; have k4 := blk_frozen (blk_below HP2.out HB'.out) 0; clear hb)
  all_goals
    simp only [i64_w]
    obtain ⟨z, hz⟩ : ∃ z, decide (wrap64 (3 * strW x) < wrap64 (load * wrap64 (steep - 25))) = z := ⟨_, rfl⟩
    rw [hz]
    have HZ : Aside0 (brk1 steep load x = z) := ⟨hz⟩
    have hp5 := blk_put (cs := #[.bool bv]) (blk_below HP2.out HB'.out) 0 (.bool z) rfl
    obtain ⟨W5, hW5⟩ : ∃ W5, w'.setCell ⟨b2, 0, none⟩ (.bool z) = W5 := ⟨_, rfl⟩
    have HK5 : Aside0 (KeepS (fun k => k = b2) w W5) := ⟨by rw [← hW5]; exact ((KeepS.of_below HBL.out).trans (KeepS.of_below HB'.out)).trans (KeepS.set (S := fun k => k = b2) rfl _ _ _)⟩
    rw [hW5] at hp5 ⊢
    have c2 : W5.cell? ⟨b2, 0, none⟩ = some (.bool z) := (blk_cell hp5 0).trans rfl
    have HP5 := Aside0.mk hp5
    clear hz hW5 hp5 k1 k2 k4 g1 g2 f2 g4 g5 g6
    go_wp2
    go_ret
    exact ⟨by rw [HZ.out]; rfl, by rw [HZ.out]; exact HP5.out, HK5.out⟩
def brkAt (steep : Int) (l : List S48) : Nat → Nat → Int → Bool → Bool
  | 0, _, _, b => b
  | d + 1, i, load, _ => if brk1 steep load (l.getD i z48) = true then true else brkAt steep l d (i + 1) (wrap64 (load + wrap64 ((l.getD i z48).f0 + (l.getD i z48).f1))) false
set_option maxRecDepth 100000 in
set_option maxHeartbeats 1000000 in
theorem each_brk (A : Option Addr) (cap : Nat) (l : List S48) (steep : Int) (bv : Bool) (b1 b2 : Nat) (w : World) (hr : Kd.C k48 w A l.length l)
    (p1 : w.heap[b1]? = some (.cells #[.int .i64 steep] 3 (0, 0))) (p2 : w.heap[b2]? = some (.cells #[.bool bv] 4 (0, 0))) (h12 : b1 ≠ b2)
    (hd : 0 < l.length → ∀ ad, A = some ad → ad.block ≠ b2) :
    Calls Tryd.prog 75 #[.agg #[.slice A l.length cap], .func (.func 94) #[] #[.pointer (some ⟨b1, 0, none⟩), .pointer (some ⟨b2, 0, none⟩)]] w fun e w' => e = .returned (.tuple #[]) ∧
      w'.heap[b2]? = some (.cells #[.bool (brkAt steep l l.length 0 0 bv)] 4 (0, 0)) ∧ KeepS (fun k => k = b2) w w' := by
  have hu24 := Tryd.underlying24
  have hu48 := Tryd.underlying48
  have HR := Aside0.mk hr
  have P1 := Aside0.mk p1
  have P2 := Aside0.mk p2
  have hlen : l.length ≤ 9223372036854775807 := hr.2.1
  clear hr p1 p2
  go_enter Tryd.func75, Tryd.ntmps75
  go_wp2
  go_loopg [4, 10] l.length (fun dq v4 v10 w' => ∃ (j : Nat) (load : Int) (s : Bool), v4 = .int .i64 load ∧ v10 = .int .i64 j ∧ j ≤ l.length ∧ dq = l.length - j ∧ Aside0 (brkAt steep l dq j load s = brkAt steep l l.length 0 0 bv) ∧
    Aside0 (w'.heap[b2]? = some (.cells #[.bool s] 4 (0, 0))) ∧ Aside0 (KeepS (fun k => k = b2) w w') ∧ Aside0 (j ≠ 0 → s = false))
  case atStart => exact ⟨0, 0, bv, rfl, rfl, Nat.zero_le _, rfl, ⟨rfl⟩, ⟨blk_alloc P2.out _⟩, ⟨KeepS.alloc _ _⟩, ⟨fun h => absurd rfl h⟩⟩
  case round =>
    obtain ⟨j, load, s, rfl, rfl, hj, hdq, HE, Q2, HK, HS⟩ := hrel
    have HRj : Aside0 (Kd.C k48 wr A l.length l) := ⟨read_keep (b2 := b2) (b3 := b2) HR.out (HK.out.mono (fun k hk => .inl hk)) (fun h0 ad e => ⟨hd h0 ad e, hd h0 ad e⟩)⟩
    by_cases hlt : j < l.length
    · have t1 : decide (j < l.length) = true := decide_eq_true hlt
      obtain ⟨ad, hA, y0, y1, y2⟩ := at_T48 HRj.out (j : Int) (by omega) (by omega)
      subst hA
      obtain ⟨y, hy⟩ : ∃ y, rd_T48 l (j : Int) = y := ⟨_, rfl⟩
      rw [hy] at y0 y1 y2
      simp only [Int.toNat_natCast] at y0 y1 y2
      have HY : Aside0 (l.getD j z48 = y) := ⟨hy⟩
      clear hy
      go_upto_region 5 with (fail)
      obtain ⟨p, hp⟩ : ∃ p, wr.heap.size = p := ⟨_, rfl⟩
      have hbx := blk_new wr (.cells #[.int .i64 y.f0, .int .i64 y.f1, .int .i64 y.f2] 48 (0, 0))
      have hbl := (Below.refl wr.heap.size wr).alloc (Nat.le_refl _) (.cells #[.int .i64 y.f0, .int .i64 y.f1, .int .i64 y.f2] 48 (0, 0))
      generalize wr.alloc (.cells #[.int .i64 y.f0, .int .i64 y.f1, .int .i64 y.f2] 48 (0, 0)) = W3 at hbx hbl ⊢
      have HBL := Aside0.mk hbl
      have HNE : Aside0 (p ≠ b2) := ⟨by have h2 := blk_lt P2.out; have := HK.out.size; omega⟩
      rw [hp] at hbx ⊢
      have HBX := Aside0.mk hbx
      have HP1 : Aside0 (W3.heap[b1]? = some (.cells #[.int .i64 steep] 3 (0, 0))) := ⟨blk_below (HK.out.blk P1.out h12) hbl⟩
      have HQ2 := Aside0.mk (blk_below Q2.out hbl)
      have c0 : W3.cell? ⟨p, 0, none⟩ = some (.int .i64 y.f0) := (blk_cell hbx 0).trans rfl
      have c1 : W3.cell? ⟨p, 1, none⟩ = some (.int .i64 y.f1) := (blk_cell hbx 1).trans rfl
      have c2 : W3.cell? ⟨p, 2, none⟩ = some (.int .i64 y.f2) := (blk_cell hbx 2).trans rfl
      clear hbx hbl hp y0 y1 y2
      obtain ⟨z, hz⟩ : ∃ z, brk1 steep load y = z := ⟨_, rfl⟩
      have HZ := Aside0.mk hz
      clear hz
      go_upto_if 20 with (first | (go_at_call 94; refine (brk_calls y (j : Int) load steep s b1 b2 _ HP1.out HQ2.out h12).mono ?_; rintro e w4 ⟨rfl, g2, gk⟩; rw [HZ.out] at g2; have G2 := Aside0.mk g2; have GK := Aside0.mk gk; have hbx4 := gk.blk HBX.out HNE.out; have d0 : w4.cell? ⟨p, 0, none⟩ = some (.int .i64 y.f0) := (blk_cell hbx4 0).trans rfl; have d1 : w4.cell? ⟨p, 1, none⟩ = some (.int .i64 y.f1) := (blk_cell hbx4 1).trans rfl; clear g2 gk hbx4 c0 c1 c2; rw [HZ.out]))
      have e : gk = (l.length - (j + 1)) + 1 := by omega
      have HH := HE.out
      rw [e] at HH
      simp only [brkAt, HY.out, HZ.out] at HH
      have HA := Aside0.mk HH
      clear HH e
      cases z with
      | true =>
        go_wp2
        refine bodyPost_ret (v := .tuple #[]) (results_none rfl _ _ _) rfl ⟨rfl, ?_, (HK.out.trans (KeepS.of_below HBL.out)).trans GK.out⟩
        have h := HA.out
        simp only [if_true] at h
        rw [← h]
        exact G2.out
      | false =>
        go_wp2
        go_roundg (l.length - (j + 1))
        case measure => omega
        case rel =>
          refine ⟨j + 1, wrap64 (load + wrap64 (y.f0 + y.f1)), false, rfl, by go_num, by omega, rfl, ⟨?_⟩, G2, ⟨(HK.out.trans (KeepS.of_below HBL.out)).trans GK.out⟩, ⟨fun _ => rfl⟩⟩
          have h := HA.out
          simp only [Bool.false_eq_true, if_false] at h
          exact h
    · have t1 : decide (j < l.length) = false := decide_eq_false hlt
      go_wp2
      go_end0
      have e : gk = 0 := by omega
      have h := HE.out
      rw [e] at h
      rw [← h]
      exact ⟨rfl, Q2.out, HK.out⟩
end Go.Proofs.YtpldcikmlpegpaaDoor.PB
end
section
namespace Go.Proofs.YtpldcikmlpegpaaDoor.PB
open Go.RowKit Go.Proofs.YtpldcikmlpegpaaDoorW.PrintWords Go.Proofs.YtpldcikmlpegpaaDoorW.PrintLast Go.Proofs.YtpldcikmlpegpaaDoorW.PrintMore
attribute [local go_sem] max2_int min2_int max_two min_two
def pack_Weakest.f (l : List S48) : Option (Int × Int × Int) :=
  (pack_Check.f 200 l).bind fun e => if e = 0 then (if l.length = 0 then some (0, 0, 4) else some ((weakAt l l.length 0 0 (0, 0)).1, (weakAt l l.length 0 0 (0, 0)).2, 0)) else some (0, 0, e)
def pack_breaks.f (l : List S48) (steep : Int) : Option Bool := some (brkAt steep l l.length 0 0 false)
set_option maxRecDepth 100000 in
set_option maxHeartbeats 1000000 in
theorem pack_breaks.calls (A0_0 : Option Addr) (c0_0 : Nat) (l0_0 : List (S48)) (a1 : Int) (r : Bool) (w : World) (hr0_0 : Kd.C k48 w A0_0 l0_0.length l0_0) (_hc0_0 : l0_0.length ≤ c0_0) (h : pack_breaks.f l0_0 a1 = some r) :
    Calls Tryd.prog 79 #[.agg #[.slice A0_0 l0_0.length c0_0], .int .i64 a1] w fun e w' => e = .returned (.bool r) ∧ Below w.heap.size w w' := by
  have hu24 := Tryd.underlying24
  have HR := Aside0.mk hr0_0
  have HZ := Aside0.mk (Option.some.inj h)
  have HA : Aside0 (0 < l0_0.length → ∀ ad, A0_0 = some ad → ad.block < w.heap.size) := ⟨fun h0 ad e => by
    obtain ⟨ad', e', hc, _⟩ := at_T48 hr0_0 0 (Int.le_refl _) (by omega)
    rw [e] at e'
    cases e'
    have := World.block_lt_of_cell? w _ hc
    have hb : (ad.add ((0 : Int).toNat * 3)).block = ad.block := by unfold Addr.add; split <;> rfl
    rwa [hb] at this⟩
  clear hr0_0 h
  go_enter Tryd.func79, Tryd.ntmps79
  go_upto_region 1 with (fail)
  obtain ⟨B, hB⟩ : ∃ B, w.heap.size = B := ⟨_, rfl⟩
  obtain ⟨V1, hV1⟩ : ∃ W1, w.alloc (.cells #[.slice A0_0 l0_0.length c0_0] 24 (0, 0)) = W1 := ⟨_, rfl⟩
  obtain ⟨V2, hV2⟩ : ∃ W1, V1.alloc (.cells #[.int .i64 a1] 3 (0, 0)) = W1 := ⟨_, rfl⟩
  obtain ⟨W1, hW1⟩ : ∃ W1, V2.alloc (.cells #[.bool false] 4 (0, 0)) = W1 := ⟨_, rfl⟩
  have s1 : V1.heap.size = B + 1 := by rw [← hV1, ← hB]; simp
  have s2 : V2.heap.size = B + 2 := by rw [← hV2]; simp [s1]
  have b1 : Below B w V1 := by rw [← hV1, ← hB]; exact (Below.refl _ _).alloc (Nat.le_refl _) _
  have b2 : Below B w V2 := by rw [← hV2]; exact b1.alloc (by omega) _
  have b3 : Below B w W1 := by rw [← hW1]; exact b2.alloc (by omega) _
  have p0 : W1.heap[B]? = some (.cells #[.slice A0_0 l0_0.length c0_0] 24 (0, 0)) := by rw [← hW1]; refine blk_alloc ?_ _; rw [← hV2]; refine blk_alloc ?_ _; rw [← hV1, ← hB]; exact blk_new _ _
  have p1 : W1.heap[B + 1]? = some (.cells #[.int .i64 a1] 3 (0, 0)) := by rw [← hW1]; refine blk_alloc ?_ _; rw [← hV2, ← s1]; exact blk_new _ _
  have p2 : W1.heap[B + 1 + 1]? = some (.cells #[.bool false] 4 (0, 0)) := by rw [← hW1, show B + 1 + 1 = V2.heap.size from s2.symm]; exact blk_new _ _
  rw [hV1, hV2, hW1, hB]
  have P1 := Aside0.mk p1
  have P2 := Aside0.mk p2
  have HB3 := Aside0.mk b3
  have HBq := Aside0.mk hB
  have q0 : W1.cell? ⟨B, 0, none⟩ = some (.slice A0_0 l0_0.length c0_0) := (blk_cell p0 0).trans rfl
  have HS1 : Aside0 (B + 1 ≤ W1.heap.size) := ⟨by have := blk_lt p1; omega⟩
  clear hV1 hV2 hW1 s1 s2 b1 b2 b3 p0 p1 p2 hB
  have HR1 : Aside0 (Kd.C k48 W1 A0_0 l0_0.length l0_0) := ⟨Kd.C_below HR.out (by rw [HBq.out]; exact HB3.out)⟩
  have HD1 : Aside0 (0 < l0_0.length → ∀ ad, A0_0 = some ad → ad.block ≠ B + 1 + 1) := ⟨fun h0 ad e => by have := HA.out h0 ad e; have := HBq.out; omega⟩
  go_upto_region 2 with (first | (go_at_call 75; refine (each_brk A0_0 c0_0 l0_0 a1 false (B + 1) (B + 1 + 1) _ HR1.out P1.out P2.out (by omega) HD1.out).mono ?_; rintro e w4 ⟨rfl, g2, gk⟩; have G2 := Aside0.mk g2; have GK := Aside0.mk gk; have c4 : w4.cell? ⟨B + 1 + 1, 0, none⟩ = some (.bool (brkAt a1 l0_0 l0_0.length 0 0 false)) := (blk_cell g2 0).trans rfl; have f4 := blk_frozen g2 0; clear g2 gk))
  obtain ⟨z, hz⟩ : ∃ z, brkAt a1 l0_0 l0_0.length 0 0 false = z := ⟨_, rfl⟩
  rw [hz] at c4 G2 HZ
  clear hz q0
  obtain rfl := HZ.out
  go_wp2
  have hc := (blk_cell (blk_put (cs := #[.bool z]) G2.out 0 (.bool z) rfl) 0)
  refine bodyPost_ret (v := .bool z) (by simp [results, Tryd.results79, go_sem, hc]) rfl ⟨rfl, ?_⟩
  rw [HBq.out]
  refine Below.setCell (p := ⟨B + 1 + 1, 0, none⟩) ?_ (by show B ≤ B + 1 + 1; omega) _
  exact GK.out.below HB3.out (fun k hk => by omega) (by have := HS1.out; omega)
set_option maxRecDepth 100000 in
set_option maxHeartbeats 1000000 in
theorem pack_Weakest.calls (A0_0 : Option Addr) (c0_0 : Nat) (l0_0 : List (S48)) (r1 : Int) (r2 : Int) (r3 : Int) (w : World) (hr0_0 : Kd.C k48 w A0_0 l0_0.length l0_0) (hc0_0 : l0_0.length ≤ c0_0) (h : pack_Weakest.f l0_0 = some (r1, r2, r3)) :
    Calls Tryd.prog 33 #[.agg #[.slice A0_0 l0_0.length c0_0]] w fun e w' => e = .returned (.tuple #[.int .i64 r1, .int .i64 r2, .int .i64 r3]) ∧ Below w.heap.size w w' := by
  have hu24 := Tryd.underlying24
  have HR := Aside0.mk hr0_0
  have HC := Aside0.mk hc0_0
  have HA : Aside0 (0 < l0_0.length → ∀ ad, A0_0 = some ad → ad.block < w.heap.size) := ⟨fun h0 ad e => by
    obtain ⟨ad', e', hc, _⟩ := at_T48 hr0_0 0 (Int.le_refl _) (by omega)
    rw [e] at e'
    cases e'
    have := World.block_lt_of_cell? w _ hc
    have hb : (ad.add ((0 : Int).toNat * 3)).block = ad.block := by unfold Addr.add; split <;> rfl
    rwa [hb] at this⟩
  unfold pack_Weakest.f at h
  replace h := Option.bind_eq_some_iff.mp h
  obtain ⟨e1, E1, h⟩ := h
  have HE1 := Aside0.mk E1
  have HH := Aside0.mk h
  clear hr0_0 hc0_0 h E1
  go_enter Tryd.func33, Tryd.ntmps33
  go_upto_region 1 with (fail)
  obtain ⟨B, hB⟩ : ∃ B, w.heap.size = B := ⟨_, rfl⟩
  obtain ⟨W0, hW0⟩ : ∃ W1, w.alloc (.cells #[.slice A0_0 l0_0.length c0_0] 24 (0, 0)) = W1 := ⟨_, rfl⟩
  have s1 : W0.heap.size = B + 1 := by rw [← hW0, ← hB]; simp
  have b1 : Below B w W0 := by rw [← hW0, ← hB]; exact (Below.refl _ _).alloc (Nat.le_refl _) _
  have p0 : W0.heap[B]? = some (.cells #[.slice A0_0 l0_0.length c0_0] 24 (0, 0)) := by rw [← hW0, ← hB]; exact blk_new _ _
  rw [hW0, hB]
  have P0 := Aside0.mk p0
  have HB1 := Aside0.mk b1
  have HBq := Aside0.mk hB
  have HS0 := Aside0.mk s1
  have HR0 : Aside0 (Kd.C k48 W0 A0_0 l0_0.length l0_0) := ⟨Kd.C_below HR.out (by rw [HBq.out]; exact HB1.out)⟩
  have q0 : W0.cell? ⟨B, 0, none⟩ = some (.slice A0_0 l0_0.length c0_0) := (blk_cell p0 0).trans rfl
  clear hW0 s1 b1 p0 hB
  go_upto_if 11 with (first | (go_at_call 25; refine (pack_Check.calls 200 A0_0 c0_0 l0_0 e1 _ HR0.out HC.out HE1.out).mono ?_; rintro e w7 ⟨rfl, hb⟩; have HB7 := Aside0.mk hb; have q7 := pw_cell_below hb q0; clear hb q0))
  have HBw : Aside0 (Below B w w7) := ⟨HB1.out.trans (HB7.out.mono (by rw [HS0.out]; omega))⟩
  by_cases h1 : e1 = 0
  · have z0 : (e1 != 0) = false := by simp [h1]
    have h2 := HH.out
    rw [if_pos h1] at h2
    by_cases hl : l0_0.length = 0
    · rw [if_pos hl] at h2
      simp only [Option.some.injEq, Prod.mk.injEq] at h2
      obtain ⟨rfl, rfl, rfl⟩ := h2
      have z1 : ((l0_0.length : Int) == 0) = true := by simp [hl]
      clear hl h1
      go_wp2
      all_goals (go_ret3; exact ⟨rfl, by rw [HBq.out]; exact HBw.out⟩)
    · rw [if_neg hl] at h2
      simp only [Option.some.injEq, Prod.mk.injEq] at h2
      obtain ⟨h3, h4, rfl⟩ := h2
      have z1 : ((l0_0.length : Int) == 0) = false := by simpa using hl
      have HL := Aside0.mk hl
      have H3 := Aside0.mk h3
      have H4 := Aside0.mk h4
      clear hl h1 h3 h4
      go_upto_region 7 with (fail)
      obtain ⟨p, hp⟩ : ∃ p, w7.heap.size = p := ⟨_, rfl⟩
      obtain ⟨V1, hV1⟩ : ∃ W1, w7.alloc (.cells #[.int .i64 0] 3 (0, 0)) = W1 := ⟨_, rfl⟩
      obtain ⟨V2, hV2⟩ : ∃ W1, V1.alloc (.cells #[.int .i64 0] 3 (0, 0)) = W1 := ⟨_, rfl⟩
      have s1 : V1.heap.size = p + 1 := by rw [← hV1, ← hp]; simp
      have b1 : Below w7.heap.size w7 V1 := by rw [← hV1]; exact (Below.refl _ _).alloc (Nat.le_refl _) _
      have b2 : Below w7.heap.size w7 V2 := by rw [← hV2]; exact b1.alloc (by omega) _
      have p1 : V2.heap[p]? = some (.cells #[.int .i64 0] 3 (0, 0)) := by rw [← hV2]; refine blk_alloc ?_ _; rw [← hV1, ← hp]; exact blk_new _ _
      have p2 : V2.heap[p + 1]? = some (.cells #[.int .i64 0] 3 (0, 0)) := by rw [← hV2, ← s1]; exact blk_new _ _
      have q8 := pw_cell_below b2 q7
      have P1 := Aside0.mk p1
      have P2 := Aside0.mk p2
      have HB2 := Aside0.mk b2
      have PB : Aside0 (V2.heap[B]? = some (.cells #[.slice A0_0 l0_0.length c0_0] 24 (0, 0))) := ⟨blk_below (blk_below P0.out HB7.out) b2⟩
      have HP : Aside0 (B + 1 ≤ p) := ⟨by have := HB7.out.size; have := HS0.out; omega⟩
      have HR2 : Aside0 (Kd.C k48 V2 A0_0 l0_0.length l0_0) := ⟨Kd.C_below (Kd.C_below HR0.out HB7.out) b2⟩
      have HD1 : Aside0 (0 < l0_0.length → ∀ ad, A0_0 = some ad → ad.block ≠ p ∧ ad.block ≠ p + 1) := ⟨fun h0 ad e => by have := HA.out h0 ad e; have := HBq.out; have := HP.out; omega⟩
      have HBV : Aside0 (Below B w V2) := ⟨HBw.out.trans (b2.mono (by have := HP.out; omega))⟩
      rw [hV1, hV2, hp]
      clear hV1 hV2 hp s1 b1 b2 p1 p2 q7
      go_upto_region 8 with (first | (go_at_call 75; refine (each_weak A0_0 c0_0 l0_0 0 0 B p (p + 1) _ HR2.out (Int.le_refl _) (by have := HL.out; omega) PB.out P1.out P2.out (by omega) (by have := HP.out; omega) (by have := HP.out; omega) HD1.out).mono ?_; rintro e w8 ⟨rfl, g2, g3, gk⟩; rw [H3.out] at g2; rw [H4.out] at g3; have c2 : w8.cell? ⟨p, 0, none⟩ = some (.int .i64 r1) := (blk_cell g2 0).trans rfl; have c3 : w8.cell? ⟨p + 1, 0, none⟩ = some (.int .i64 r2) := (blk_cell g3 0).trans rfl; have GK := Aside0.mk gk; clear g2 g3 gk q8))
      go_quiet (fail)
      go_wp2
      go_ret3
      refine ⟨rfl, ?_⟩
      rw [HBq.out]
      exact (GK.out.trans (KeepS.drewN _ _)).below HBV.out (fun k hk => by have := HP.out; omega) (by have := blk_lt P1.out; have := HP.out; omega)
  · have z0 : (e1 != 0) = true := by simp [h1]
    have h2 := HH.out
    rw [if_neg h1] at h2
    simp only [Option.some.injEq, Prod.mk.injEq] at h2
    obtain ⟨rfl, rfl, rfl⟩ := h2
    clear h1
    go_wp2
    go_ret3
    exact ⟨rfl, by rw [HBq.out]; exact HBw.out⟩
end Go.Proofs.YtpldcikmlpegpaaDoor.PB
end
