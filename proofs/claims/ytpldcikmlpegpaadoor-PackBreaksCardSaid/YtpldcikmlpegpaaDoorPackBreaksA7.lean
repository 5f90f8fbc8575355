/-
The tied card of the law PackBreaks of snowlinelaw02 holds: it answers true for every pack and every steepness, and changes nothing.
-/
import Derived.Test.YtpldcikmlpegpaaDoorTie
import Derived.Test.YtpldcikmlpegpaaDoorCards
import Derived.SevenTiedAt
import Derived.Test.YtpldcikmlpegpaaDoorPackBreaksA1
import Derived.Test.YtpldcikmlpegpaaDoorPackBreaksA2
import Derived.Test.YtpldcikmlpegpaaDoorPackBreaksA3
import Derived.Test.YtpldcikmlpegpaaDoorPackBreaksA4
import Derived.Test.YtpldcikmlpegpaaDoorPackBreaksA5
import Derived.Test.YtpldcikmlpegpaaDoorPackBreaksA6
section
namespace Go.Proofs.YtpldcikmlpegpaaDoor.Plain
open Go.RowKit Go.Proofs.YtpldcikmlpegpaaDoor.PB Go.Proofs.YtpldcikmlpegpaaDoorW.PrintWords Go.Proofs.YtpldcikmlpegpaaDoorW.PrintMore
theorem rstr_eq {x : Ly} (h : Right x) : snowlineref02_Strength.f x.f0 x.f1 x.f2 = some (st x) := by
  unfold snowlineref02_Strength.f
  rw [strW_eq h]
theorem rd_at (l : List Ly) (i : Nat) : rd_T48 l (i : Int) = at' l i := by
  show l.getD (i : Int).toNat z48 = _
  rw [Int.toNat_natCast]
  rfl
theorem load_eq {l : List Ly} (hv : Valid l) {k i : Nat} (hk : 130 ≤ k) (hi : i ≤ l.length) : snowlineref02_Load.f k l (i : Int) = some (ld l i) := by
  have h64 := hv.1
  unfold snowlineref02_Load.f
  rw [if_pos (by omega), if_pos (by omega), Int.toNat_natCast, rwater_eq (rights_take hv.2.1 i) (by simp; omega) (by simp; omega)]
  rfl
theorem rweak_loop {l : List Ly} (hv : Valid l) : ∀ (d k i a : Nat), i + d = l.length → a < l.length → 130 + d < k → snowlineref02_Weakest.l0 k l (a : Int) (i : Int) = some (((bestAt l d i a : Nat) : Int), ld l (bestAt l d i a), 0) := by
  have h64 := hv.1
  intro d
  induction d with
  | zero =>
    intro k i a hi ha hk
    obtain ⟨k, rfl⟩ : ∃ j, k = j + 1 := ⟨k - 1, by omega⟩
    simp only [snowlineref02_Weakest.l0]
    rw [if_neg (by omega), load_eq hv (by omega) (by omega)]
    rfl
  | succ d ih =>
    intro k i a hi ha hk
    obtain ⟨k, rfl⟩ : ∃ j, k = j + 1 := ⟨k - 1, by omega⟩
    have ri := rights_at hv.2.1 (show i < l.length by omega)
    have ra := rights_at hv.2.1 ha
    have b1 := mul_bound (ld_bound hv a) (st_bound ri)
    have b2 := mul_bound (ld_bound hv i) (st_bound ra)
    simp only [snowlineref02_Weakest.l0, rd_at]
    rw [if_pos (by omega), load_eq hv (by omega) (by omega), load_eq hv (by omega) (by omega), rstr_eq ri, rstr_eq ra]
    simp only [Option.bind_some]
    rw [if_pos (by omega), if_pos (by omega), if_pos (by omega), wr (ld l i * _) (by omega), wr (ld l a * _) (by omega), wr ((i : Int) + 1) (by omega)]
    simp only [bestAt]
    by_cases h : ld l a * st (at' l i) < ld l i * st (at' l a)
    · rw [if_pos (show ld l i * st (at' l a) > ld l a * st (at' l i) from h), if_pos h]
      have := ih k (i + 1) i (by omega) (by omega) (by omega)
      push_cast at this
      exact this
    · rw [if_neg (show ¬ ld l i * st (at' l a) > ld l a * st (at' l i) from h), if_neg h]
      have := ih k (i + 1) a (by omega) (by omega) (by omega)
      push_cast at this
      exact this
theorem rweakest_eq {k : Nat} (hk : 200 ≤ k) (l : List Ly) : snowlineref02_Weakest.f k l = some (weakestP l) := by
  unfold snowlineref02_Weakest.f weakestP
  rw [rcheck_eq (by omega)]
  simp only [Option.bind_some]
  by_cases hv : Valid l
  · rw [checkE_pos hv, if_pos rfl, if_pos hv]
    have h64 := hv.1
    by_cases h0 : l.length = 0
    · rw [if_pos (by omega), if_pos h0]
    · rw [if_neg (by omega), if_neg h0]
      exact rweak_loop hv (l.length - 1) k 1 0 (by omega) (by omega) (by omega)
  · rw [checkE_neg hv, if_neg (by omega), if_neg hv]
theorem rbrk_loop {l : List Ly} (hv : Valid l) {s : Int} (hs : 0 ≤ s ∧ s ≤ 60) : ∀ (d k i : Nat), i + d = l.length → 130 + d < k → snowlineref02_breaks.l0 k l s (i : Int) = some (brkP s l d i) := by
  have h64 := hv.1
  intro d
  induction d with
  | zero =>
    intro k i hi hk
    obtain ⟨k, rfl⟩ : ∃ j, k = j + 1 := ⟨k - 1, by omega⟩
    simp only [snowlineref02_breaks.l0]
    rw [if_neg (by omega)]
    rfl
  | succ d ih =>
    intro k i hi hk
    obtain ⟨k, rfl⟩ : ∃ j, k = j + 1 := ⟨k - 1, by omega⟩
    have ri := rights_at hv.2.1 (show i < l.length by omega)
    have b0 := st_bound ri
    have b1 := mul_slope (ld_bound hv i) (show -25 ≤ s - 25 ∧ s - 25 ≤ 35 by omega)
    simp only [snowlineref02_breaks.l0, rd_at]
    rw [if_pos (by omega), load_eq hv (by omega) (by omega), rstr_eq ri]
    simp only [Option.bind_some]
    rw [if_pos (by omega), wr (s - 25) (by omega), wr (ld l i * _) (by omega), wr (3 * _) (by omega), wr ((i : Int) + 1) (by omega)]
    simp only [brkP]
    by_cases h : 3 * st (at' l i) < ld l i * (s - 25)
    · rw [if_pos (show ld l i * (s - 25) > 3 * st (at' l i) from h), if_pos h]
    · rw [if_neg (show ¬ ld l i * (s - 25) > 3 * st (at' l i) from h), if_neg h]
      have := ih k (i + 1) (by omega) (by omega)
      push_cast at this
      exact this
theorem rbroken_eq {l : List Ly} (hv : Valid l) {s : Int} (hs : 0 ≤ s ∧ s ≤ 60) {k : Nat} (hk : 200 ≤ k) : snowlineref02_breaks.f k l s = some (broken l s) := by
  have h64 := hv.1
  exact rbrk_loop hv hs l.length k 0 (by omega) (by omega)
theorem rbreaks_eq {k : Nat} (hk : 200 ≤ k) (l : List Ly) (s : Int) : snowlineref02_Breaks.f k l s = some (breaksP l s) := by
  unfold snowlineref02_Breaks.f breaksP
  rw [rcheck_eq (by omega), within_eq]
  simp only [Option.bind_some, decide_eq_true_eq]
  by_cases hv : Valid l
  · rw [checkE_pos hv, if_pos rfl, if_pos hv]
    by_cases hs : 0 ≤ s ∧ s ≤ 60
    · rw [if_pos hs, if_pos hs, rbroken_eq hv hs hk]
      rfl
    · rw [if_neg hs, if_neg hs]
  · rw [checkE_neg hv, if_neg (by omega), if_neg hv]
theorem rsteep_loop {l : List Ly} (hv : Valid l) : ∀ (n k : Nat), n ≤ 60 → 200 + n < k → snowlineref02_Steepest.l0 k (n : Int) l = some (steepAt l n, 0) := by
  intro n
  induction n with
  | zero =>
    intro k _ hk
    obtain ⟨k, rfl⟩ : ∃ j, k = j + 1 := ⟨k - 1, by omega⟩
    rfl
  | succ n ih =>
    intro k hn hk
    obtain ⟨k, rfl⟩ : ∃ j, k = j + 1 := ⟨k - 1, by omega⟩
    simp only [snowlineref02_Steepest.l0, steepAt]
    rw [if_pos (by push_cast; omega), rbroken_eq hv (by push_cast; omega) (by omega)]
    simp only [Option.bind_some]
    push_cast
    by_cases hb : broken l ((n : Int) + 1) = true
    · rw [if_pos hb, if_pos hb, wr _ (by omega), show (n : Int) + 1 - 1 = n by omega, ih k (by omega) (by omega)]
    · rw [if_neg hb, if_neg hb]
theorem rsteep_eq {k : Nat} (hk : 300 ≤ k) (l : List Ly) : snowlineref02_Steepest.f k l = some (steepP l) := by
  unfold snowlineref02_Steepest.f steepP
  rw [rcheck_eq (by omega)]
  simp only [Option.bind_some]
  by_cases hv : Valid l
  · rw [checkE_pos hv, if_pos rfl, if_pos hv]
    exact rsteep_loop hv 60 k (by omega) (by omega)
  · rw [checkE_neg hv, if_neg (by omega), if_neg hv]
end Go.Proofs.YtpldcikmlpegpaaDoor.Plain
end
section
namespace Go.Proofs.YtpldcikmlpegpaaDoor.PurePackBreaks
open Go.RowKit Go.Proofs.YtpldcikmlpegpaaDoor.PB Go.Proofs.YtpldcikmlpegpaaDoor.Open Go.Proofs.YtpldcikmlpegpaaDoor.Plain
theorem pure (l : List Ly) (s : Int) (_ : ∀ x ∈ l, LyI x) (_ : i64 s) : ∃ n, snowlinelaw02_PackBreaks.f n l s = some true := by
  obtain ⟨k0, h0⟩ := few_one l
  refine ⟨max k0 300, ?_⟩
  have hk : 300 ≤ max k0 300 := by omega
  generalize hg : max k0 300 = k at hk
  have hf : snowlinelaw02_few.f k [(⟨l⟩ : S24)] = some (decide (l.length ≤ 70)) := h0 k (by omega)
  unfold snowlinelaw02_PackBreaks.f
  rw [sane_eq k (by omega), hf, weakest_eq, rweakest_eq (by omega), breaks_eq (by omega), rbreaks_eq (by omega), steep_eq (by omega), rsteep_eq (by omega)]
  simp only [Option.bind_some, if_true]
  by_cases h : l.length ≤ 70
  · rw [decide_eq_true h]
    simp
  · rw [decide_eq_false h]
    simp
end Go.Proofs.YtpldcikmlpegpaaDoor.PurePackBreaks
end
section
namespace Go.Proofs.YtpldcikmlpegpaaDoor.packBreaks
open Go.ChangeShapes Go.WideShapes Go.ChangeAt Go.RowKit Go.Proofs.YtpldcikmlpegpaaDoor.Open Go.Proofs.YtpldcikmlpegpaaDoor.PB
set_option linter.unusedVariables false
set_option maxRecDepth 100000 in
theorem lifted (os : Os) (started : os.Started) (H : Type) (enc : TypeId × Value → H) :
    ReturnsInHanded {} Tryd.checked os 9 .any (fun w args => (Rows.packBreaksSpec.pre enc Tryd.prog Tryd.f9 [] false w args ∧ laidMetH Tryd.prog laid3 w) ∧ sizedMet enc Tryd.prog Tryd.f9 (OpenSpec.ofChange Rows.packBreaksSpec) false w args)
      (Rows.packBreaksSpec.post enc Tryd.prog Tryd.f9 false true false false) := by
  refine returnsInHanded_of_change_and (C := Tryd.checked) (X := fun w _ => laidMetH Tryd.prog laid3 w) (fun _ _ _ hh h => h.of_heap hh) own started (by kernel_rfl) Tryd.func9
    (ChangeSpec.witness_shaped (enc := enc) (C := Tryd.checked) (os := os) (X := fun w _ => laidMetH Tryd.prog laid3 w) false (World.doorLaid Tryd.prog 400 os) #[.agg #[.slice none 0 0], .int .i64 0] 8 rfl (World.shaped_of_RefB (by kernel_rfl) (by kernel_rfl)) (by kernel_rfl) (by kernel_rfl) (by kernel_rfl) (door_met os _)) ?_
  intro W base args ds gs before hval0 hW _ _ hL _
  have hval : ∀ (j : Nat) t v, Tryd.f9.params[j]? = some t → args[j]? = some v → Value.okWide Tryd.prog W .any base t v := hval0
  have hW' := hW
  obtain ⟨p, q, hA0, hV, rfl, hfz, hnd⟩ := hW
  have hA : DataW.TrodAll enc Tryd.prog W 0 (fun _ => true) true Tryd.f9.params.toList args.toList ds p := hA0
  rw [Tryd.params9] at hA hval
  obtain ⟨v0, vs0, d0, ds0, p0, q0, hargs, rfl, rfl, h0, r0⟩ := trodAll_cons hA
  obtain ⟨v1, vs1, d1, ds1, p1, q1, rfl, rfl, rfl, h1, r1⟩ := trodAll_cons r0
  obtain ⟨rfl, rfl, rfl⟩ := trodAll_nil r1
  obtain rfl : args = #[v0, v1] := by cases args; simp_all
  obtain ⟨rfl, rfl⟩ := trodVars_none hV
  have k0 := h0
  have lt0 : ∀ x ∈ p0, x.block < W.heap.size := by obtain ⟨m, hm⟩ := k0; exact DataW.trod_lt m _ _ _ hm
  obtain ⟨A0, c0, l0, rfl, hl0, hC0, hi0⟩ := open_pack (hval 0 24 v0 rfl rfl) h0
  have k1 := h1
  have lt1 : ∀ x ∈ p1, x.block < W.heap.size := by obtain ⟨m, hm⟩ := k1; exact DataW.trod_lt m _ _ _ hm
  obtain ⟨a1, rfl, _, _, w1⟩ := open_int Tryd.underlying3 (hval 1 3 v1 rfl rfl) h1
  clear hA0 hval0
  obtain ⟨k, h⟩ := PurePackBreaks.pure l0 a1 hi0 w1
  refine (snowlinelaw02_PackBreaks.calls k (fun k => k < W.heap.size) A0 c0 l0 a1 true W (share_of hC0 hl0) (glob_of hL) h).mono ?_
  rintro e W' ⟨rfl, bel⟩
  exact ⟨_, rfl, _, _, _, [], _, [], hW', trodAll_mk1 (shut_bool Tryd.underlying4 _), (trodAll_cons_mk (Below.trod laidOut (by kernel_rfl) (of_decide_eq_true (by kernel_rfl)) k0 bel lt0) (trodAll_cons_mk (Below.trod laidOut (by kernel_rfl) (of_decide_eq_true (by kernel_rfl)) k1 bel lt1) trodAll_mk0)), rfl, bel.frame _, fun h => by cases h⟩
theorem over : Rows.PackBreaksSaid :=
  OpenClaim.holds_of_wide 9 Tryd.f9 rfl rfl rfl rfl rfl rfl rfl ⟨rfl, rfl, rfl, rfl, rfl⟩ rfl rfl rfl rfl rfl (by kernel_rfl) Tryd.func9 (by kernel_rfl)
    (of_decide_eq_true (by kernel_rfl)) (by unfold Func.isWrapper; first | (rw [if_pos (by decide +kernel)]; kernel_rfl) | (rw [if_neg (by decide +kernel)]; exact ⟨rfl, rfl⟩))
    (fun os started H enc _ => lifted os started H enc)
theorem card_holds : Rows.PackBreaksCardSaid :=
  Claim7.holds_tied_plain_at .later [] [.data, .data, .data] true (true, "e4590a7662fcc404b2e76501190c3f3756a1f45f85c3a8ba53dbb8ae7a261990") false
    over (fun _ h => by cases h) (by kernel_rfl) (fun _ h => by cases h) packBreaks_row_tie rfl ⟨rfl, rfl⟩ (by kernel_rfl) rfl
    (fun f fn hf hfn => by
      obtain rfl : f = 9 := Option.some.inj ((show Tryd.prog.funcNamed "snowline/snowlinelaw02.PackBreaks" = some 9 by kernel_rfl).symm.trans hf) |>.symm
      obtain rfl : fn = Tryd.f9 := (Option.some.inj (Tryd.func9.symm.trans hfn)).symm
      exact ⟨by kernel_rfl, fun j t ht => by
        rw [Tryd.params9] at ht
        have hm : t ∈ [24, 3] := by simpa using Array.mem_of_getElem? ht
        have hall : ([24, 3].all fun u => !Tryd.prog.wantsStandIn u) = true := by kernel_rfl
        exact (show Tryd.prog.wantsStandIn t = false by simpa using List.all_eq_true.1 hall t hm)⟩)
    (by kernel_rfl)
end Go.Proofs.YtpldcikmlpegpaaDoor.packBreaks
end
