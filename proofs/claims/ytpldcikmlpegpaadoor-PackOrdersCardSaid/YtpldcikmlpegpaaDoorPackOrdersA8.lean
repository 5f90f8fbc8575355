/-
The tied card of the law PackOrders of snowlinelaw02 holds: it answers true for all two packs and all two numbers, and changes nothing.
-/
import Derived.Test.YtpldcikmlpegpaaDoorTie
import Derived.Test.YtpldcikmlpegpaaDoorCards
import Derived.SevenTiedAt
import Derived.Test.YtpldcikmlpegpaaDoorPackOrdersA1
import Derived.Test.YtpldcikmlpegpaaDoorPackOrdersA2
import Derived.Test.YtpldcikmlpegpaaDoorPackOrdersA3
import Derived.Test.YtpldcikmlpegpaaDoorPackOrdersA4
import Derived.Test.YtpldcikmlpegpaaDoorPackOrdersA5
import Derived.Test.YtpldcikmlpegpaaDoorPackOrdersA6
import Derived.Test.YtpldcikmlpegpaaDoorPackOrdersA7
section
namespace Go.Proofs.YtpldcikmlpegpaaDoor.Plain
open Go.RowKit Go.Proofs.YtpldcikmlpegpaaDoor.PB Go.Proofs.YtpldcikmlpegpaaDoorW.PrintWords Go.Proofs.YtpldcikmlpegpaaDoorW.PrintMore
theorem rless_loop (p q : List Ly) (more : Nat) (hm : p.length + more = q.length) (hq : q.length ≤ 64) : ∀ (d k i : Nat), i + d = p.length → d < k →
    snowlineref02_Less.l0 k (more : Int) (i : Int) p q = some (leAll (p.drop i) (q.drop (more + i)), 0) := by
  intro d
  induction d with
  | zero =>
    intro k i hi hk
    obtain ⟨k, rfl⟩ : ∃ j, k = j + 1 := ⟨k - 1, by omega⟩
    unfold snowlineref02_Less.l0
    rw [if_neg (by omega), List.drop_eq_nil_of_le (by omega)]
    simp [leAll]
  | succ d ih =>
    intro k i hi hk
    obtain ⟨k, rfl⟩ : ∃ j, k = j + 1 := ⟨k - 1, by omega⟩
    unfold snowlineref02_Less.l0
    have e1 : wrap64 ((more : Int) + (i : Int)) = ((more + i : Nat) : Int) := by rw [wr _ (by omega)]; omega
    rw [if_pos (by omega), if_pos (by omega), e1, if_pos (by omega), if_pos (by omega)]
    rw [rd_drop (show i < p.length by omega), rd_drop (show more + i < q.length by omega)]
    have hi' := ih k (i + 1) (by omega) (by omega)
    rw [show more + (i + 1) = more + i + 1 by omega] at hi'
    push_cast at hi'
    simp only [leAll]
    generalize rd_T48 p (i : Int) = a at *
    generalize rd_T48 q ((more + i : Nat) : Int) = b at *
    by_cases h0 : a.f0 > b.f0
    · rw [if_pos h0, decide_eq_false (fun h : Le1 a b => by have := h.1; omega)]; rfl
    · rw [if_neg h0]
      by_cases h1 : a.f1 > b.f1
      · rw [if_pos h1, decide_eq_false (fun h : Le1 a b => by have := h.2.1; omega)]; rfl
      · rw [if_neg h1]
        by_cases h2 : a.f2 > b.f2
        · rw [if_pos h2, decide_eq_false (fun h : Le1 a b => by have := h.2.2; omega)]; rfl
        · rw [if_neg h2, wr ((i : Int) + 1) (by omega), hi', decide_eq_true (show Le1 a b from ⟨by omega, by omega, by omega⟩)]; rfl
theorem rless_eq {k : Nat} (hk : 140 ≤ k) (p q : List Ly) : snowlineref02_Less.f k p q = some (lessP p q) := by
  obtain ⟨k, rfl⟩ : ∃ j, k = j + 1 := ⟨k - 1, by omega⟩
  unfold snowlineref02_Less.f lessP
  rw [rcheck_eq (by omega), rcheck_eq (by omega)]
  simp only [Option.bind_some, snowlineref02_Less.j0]
  by_cases hv : Valid p
  · rw [checkE_pos hv, if_pos rfl]
    by_cases hq : Valid q
    · rw [checkE_pos hq, if_neg (by simp), if_pos (show Valid p ∧ Valid q from ⟨hv, hq⟩)]
      have l1 := hv.1
      have l2 := hq.1
      rw [wr _ (by omega)]
      unfold lies
      by_cases hl : p.length ≤ q.length
      · rw [if_neg (by omega), decide_eq_true hl]
        have := rless_loop p q (q.length - p.length) (by omega) l2 p.length k 0 (by omega) (by omega)
        rw [show (((q.length - p.length : Nat)) : Int) = (q.length : Int) - (p.length : Int) by omega] at this
        simpa using this
      · rw [if_pos (by omega), decide_eq_false hl]; rfl
    · rw [checkE_neg hq, if_pos (by simp), if_neg (fun h : Valid p ∧ Valid q => hq h.2)]
  · rw [checkE_neg hv, if_neg (by omega), if_pos trivial, if_neg (fun h : Valid p ∧ Valid q => hv h.1)]
theorem once_at (xs : List Ly) (h : 2 ≤ xs.length) : joinOnce xs = xs.take (leastW xs (xs.length - 2) 1 0) ++ joinW (xs.getD (leastW xs (xs.length - 2) 1 0) z48) (xs.getD (leastW xs (xs.length - 2) 1 0 + 1) z48) :: xs.drop (leastW xs (xs.length - 2) 1 0 + 2) ∧ leastW xs (xs.length - 2) 1 0 + 1 < xs.length := by
  have e0 : leastW xs (xs.length - 1) 0 0 = leastW xs (xs.length - 2) 1 0 := by
    have e : xs.length - 1 = (xs.length - 2) + 1 := by omega
    rw [e]
    simp only [leastW]
    rw [if_neg (by omega)]
  have hlt : leastW xs (xs.length - 2) 1 0 + 1 < xs.length := leastW_lt xs _ 1 0 (by omega) (by omega)
  refine ⟨?_, hlt⟩
  unfold joinOnce
  rw [e0]
  generalize leastW xs (xs.length - 2) 1 0 = a at hlt
  simp only []
  rw [List.take_add_one, List.take_set, List.drop_set_of_lt (by omega)]
  have e1 : (xs.take a).set a (joinW (xs.getD a z48) (xs.getD (a + 1) z48)) = xs.take a := List.set_eq_of_length_le (by simp; omega)
  rw [e1]
  simp [show a < xs.length by omega]
theorem join_f (a b : Ly) : snowlineref02_join.f a.f0 a.f1 a.f2 b.f0 b.f1 b.f2 = some ((joinW a b).f0, (joinW a b).f1, (joinW a b).f2) := rfl
theorem rd_get (xs : List Ly) (i : Nat) : rd_T48 xs (i : Int) = xs.getD i z48 := by
  show xs.getD (i : Int).toNat z48 = _
  rw [Int.toNat_natCast]
theorem rjoin_last (n : Int) (xs : List Ly) (hx : xs.length ≤ 64) (i a k : Nat) (hi : i + 1 = xs.length) (ha : a + 1 < xs.length) :
    snowlineref02_Joined.l1 (k + 1) n xs (a : Int) (i : Int) = snowlineref02_Joined.l0 k n (xs.take a ++ joinW (xs.getD a z48) (xs.getD (a + 1) z48) :: xs.drop (a + 2)) := by
  generalize hy : joinW (xs.getD a z48) (xs.getD (a + 1) z48) = y
  have e1 : wrap64 ((i : Int) + 1) = (i : Int) + 1 := wr _ (by omega)
  have e2 : wrap64 ((a : Int) + 1) = ((a + 1 : Nat) : Int) := by rw [wr _ (by omega)]; rfl
  have e3 : wrap64 ((a : Int) + 2) = ((a + 2 : Nat) : Int) := by rw [wr _ (by omega)]; rfl
  have g1 : (xs.take a).length ≤ 64 := by simp only [List.length_take]; omega
  have g2 : (xs.drop (a + 2)).length ≤ 64 := by simp only [List.length_drop]; omega
  have e4 := join_f (xs.getD a z48) (xs.getD (a + 1) z48)
  rw [hy] at e4
  have g3 : (xs.take a ++ [(⟨y.f0, y.f1, y.f2⟩ : Ly)]).length ≤ 65 := by simp only [List.length_append, List.length_cons, List.length_nil]; omega
  simp only [snowlineref02_Joined.l1, Option.bind_some, List.nil_append, List.length_nil, e1, e2, e3, rd_get, e4, Int.toNat_natCast]
  rw [if_neg (by omega), if_pos (by omega), if_pos (by omega), if_pos (by omega), if_pos (by omega), if_pos (by omega), if_pos (by omega), if_pos (by omega), if_pos (by omega), if_pos (by omega), if_pos (by omega)]
  have ey : (⟨y.f0, y.f1, y.f2⟩ : Ly) = y := rfl
  rw [ey, List.append_assoc, List.singleton_append]
theorem rjoin_next (n : Int) (xs : List Ly) (hx : xs.length ≤ 64) (i a k : Nat) (hi : i + 1 < xs.length) (ha : a + 1 < xs.length) :
    snowlineref02_Joined.l1 (k + 1) n xs (a : Int) (i : Int) = snowlineref02_Joined.l1 k n xs ((if pairW xs i < pairW xs a then i else a : Nat) : Int) ((i + 1 : Nat) : Int) := by
  have e1 : wrap64 ((i : Int) + 1) = ((i + 1 : Nat) : Int) := by rw [wr _ (by omega)]; rfl
  have e2 : wrap64 ((a : Int) + 1) = ((a + 1 : Nat) : Int) := by rw [wr _ (by omega)]; rfl
  simp only [snowlineref02_Joined.l1, e1, e2, rd_get]
  rw [if_pos (by omega), if_pos (by omega), if_pos (by omega), if_pos (by omega), if_pos (by omega), if_pos (by omega), if_pos (by omega), if_pos (by omega)]
  unfold pairW
  split
  · rfl
  · rfl
theorem rjoin_find (n : Int) (xs : List Ly) (hx : xs.length ≤ 64) (r : List Ly × Int) : ∀ (d i a : Nat), i + d + 1 = xs.length → a + 1 < xs.length →
    Ev (fun k => snowlineref02_Joined.l0 k n (xs.take (leastW xs d i a) ++ joinW (xs.getD (leastW xs d i a) z48) (xs.getD (leastW xs d i a + 1) z48) :: xs.drop (leastW xs d i a + 2))) r →
    Ev (fun k => snowlineref02_Joined.l1 k n xs (a : Int) (i : Int)) r := by
  intro d
  induction d with
  | zero =>
    intro i a hi ha h
    simp only [leastW] at h
    exact Ev.step (fun k => rjoin_last n xs hx i a k (by omega) ha) h
  | succ d ih =>
    intro i a hi ha h
    refine Ev.step (fun k => rjoin_next n xs hx i a k (by omega) ha) (ih (i + 1) _ (by omega) (by split <;> omega) ?_)
    simpa only [leastW] using h
theorem rjoin_loop (n : Int) (hn : 1 ≤ n) : ∀ (m : Nat) {xs : List Ly}, xs.length = m → Valid xs → Ev (fun k => snowlineref02_Joined.l0 k n xs) (joinTo n xs, 0) := by
  intro m
  induction m with
  | zero =>
    intro xs hx hv
    refine Ev.from 1 (fun k hk => ?_)
    obtain ⟨k, rfl⟩ : ∃ j, k = j + 1 := ⟨k - 1, by omega⟩
    simp only [snowlineref02_Joined.l0]
    rw [if_neg (by omega), joinTo_few (by omega)]
  | succ m ih =>
    intro xs hx hv
    by_cases h : n < (xs.length : Int)
    · obtain ⟨h1, h2, h3, h4⟩ := once_keeps hv (by omega)
      obtain ⟨o1, o2⟩ := once_at xs (by omega)
      have hi := ih (xs := joinOnce xs) (by omega) h1
      rw [joinTo_more hv hn h]
      rw [o1] at hi
      have hf := rjoin_find n xs hv.1 _ (xs.length - 2) 1 0 (by omega) (by omega) hi
      rw [← o1] at hf
      refine Ev.step (fun k => ?_) hf
      simp only [snowlineref02_Joined.l0]
      rw [if_pos (by omega)]
      rfl
    · refine Ev.from 1 (fun k hk => ?_)
      obtain ⟨k, rfl⟩ : ∃ j, k = j + 1 := ⟨k - 1, by omega⟩
      simp only [snowlineref02_Joined.l0]
      rw [if_neg (by omega), joinTo_few h]
theorem rjoined_eq (l : List Ly) (n : Int) : Ev (fun k => snowlineref02_Joined.f k l n) (joinedP l n) := by
  unfold joinedP
  by_cases hv : Valid l
  · rw [if_pos hv]
    have hl := hv.1
    by_cases hn : 1 ≤ n ∧ n ≤ 64
    · rw [if_pos hn]
      obtain ⟨k0, h0⟩ := rjoin_loop n hn.1 l.length rfl hv
      refine Ev.from (max k0 200) (fun k hk => ?_)
      unfold snowlineref02_Joined.f
      rw [rcheck_eq (by omega), checkE_pos hv, within_eq, decide_eq_true hn]
      simp only [Option.bind_some, List.nil_append, List.length_nil, if_true]
      rw [if_pos (by omega)]
      exact h0 k (by omega)
    · rw [if_neg hn]
      refine Ev.from 200 (fun k hk => ?_)
      unfold snowlineref02_Joined.f
      rw [rcheck_eq (by omega), checkE_pos hv, within_eq, decide_eq_false hn]
      simp only [Option.bind_some, if_true]
      rw [if_neg (by simp)]
  · rw [if_neg hv]
    refine Ev.from 200 (fun k hk => ?_)
    unfold snowlineref02_Joined.f
    rw [rcheck_eq (by omega), checkE_neg hv]
    simp only [Option.bind_some]
    rw [if_neg (by omega)]
theorem rdrift_eq (L Q : List Ly) (m : Int) : Ev (fun k => snowlineref02_Drift.f k L Q m) (driftP L Q m) := by
  have bad : ∀ r : List Ly × List Ly × Int, r = ([], [], 20) → Ev (fun k => snowlineref02_Drift.j0 k m true L Q) r := fun r hr => by
    refine Ev.from 1 (fun k hk => ?_)
    obtain ⟨k, rfl⟩ : ∃ j, k = j + 1 := ⟨k - 1, by omega⟩
    simp only [snowlineref02_Drift.j0]
    rw [if_pos trivial, hr]
  unfold driftP
  by_cases hv : Valid L
  · by_cases hq : Valid Q
    · rw [if_pos (show Valid L ∧ Valid Q from ⟨hv, hq⟩)]
      have start : ∀ {r : List Ly × List Ly × Int}, Ev (fun k => snowlineref02_Drift.j0 k m false L Q) r → Ev (fun k => snowlineref02_Drift.f k L Q m) r := fun {r} h => by
        obtain ⟨k0, h0⟩ := h
        refine Ev.from (max k0 200) (fun k hk => ?_)
        unfold snowlineref02_Drift.f
        rw [rcheck_eq (by omega), rcheck_eq (by omega), checkE_pos hv, checkE_pos hq]
        simp only [Option.bind_some, if_true]
        exact h0 k (by omega)
      refine start ?_
      by_cases hm : 0 ≤ m ∧ m ≤ 65536
      · rw [if_pos hm]
        obtain ⟨b1, b2, b3, b4⟩ := blown_keeps hv hm
        have hs6 : StepOk 6 m 0 := ⟨by omega, hm, by rw [if_neg (by omega)]; omega⟩
        have hs1 : StepOk 1 (blown L m).2.2 0 := ⟨by omega, by omega, by rw [if_pos rfl]; omega⟩
        have d6 := do_eq hv hs6
        have d1 := do_eq hq hs1
        have e6 : ((doStep L 6 m 0).1, (doStep L 6 m 0).2, tookOf L 6 m) = blown L m := rfl
        rw [e6] at d6
        obtain ⟨k6, h6⟩ := d6
        obtain ⟨k1, h1⟩ := d1
        refine Ev.from (max 200 (max k6 k1) + 1) (fun k hk => ?_)
        obtain ⟨k, rfl⟩ : ∃ j, k = j + 1 := ⟨k - 1, by omega⟩
        simp only [snowlineref02_Drift.j0]
        rw [if_neg (by simp), within_eq, decide_eq_true hm]
        simp only [Option.bind_some, if_true]
        rw [show snowlineref02_Do.f k L 6 m 0 = _ from h6 k (by omega)]
        simp only [Option.bind_some]
        rw [show snowlineref02_Do.f k Q 1 (blown L m).2.2 0 = _ from h1 k (by omega)]
        simp only [Option.bind_some]
        rw [rcheck_eq (by omega), rcheck_eq (by omega)]
        simp only [Option.bind_some]
        unfold applyP
        rw [if_pos hq, if_pos hs1]
        by_cases w1 : Valid (blown L m).1
        · rw [checkE_pos w1, if_pos rfl, if_pos w1]
          by_cases w2 : Valid (doStep Q 1 (blown L m).2.2 0).1
          · rw [checkE_pos w2, if_pos rfl, if_pos w2, if_pos rfl]
          · rw [checkE_neg w2, if_neg (by omega), if_neg w2, if_neg (by show ¬ (2 : Int) = 0; omega)]
        · rw [checkE_neg w1, if_neg (by omega), if_neg w1]
      · rw [if_neg hm]
        refine Ev.from 1 (fun k hk => ?_)
        obtain ⟨k, rfl⟩ : ∃ j, k = j + 1 := ⟨k - 1, by omega⟩
        simp only [snowlineref02_Drift.j0]
        rw [if_neg (by simp), within_eq, decide_eq_false hm]
        simp only [Option.bind_some]
        rw [if_neg (by simp)]
    · rw [if_neg (fun h : Valid L ∧ Valid Q => hq h.2)]
      obtain ⟨k0, h0⟩ := bad _ rfl
      refine Ev.from (max k0 200) (fun k hk => ?_)
      unfold snowlineref02_Drift.f
      rw [rcheck_eq (by omega), rcheck_eq (by omega), checkE_pos hv, checkE_neg hq]
      simp only [Option.bind_some, if_true]
      exact h0 k (by omega)
  · rw [if_neg (fun h : Valid L ∧ Valid Q => hv h.1)]
    obtain ⟨k0, h0⟩ := bad _ rfl
    refine Ev.from (max k0 200) (fun k hk => ?_)
    unfold snowlineref02_Drift.f
    rw [rcheck_eq (by omega), checkE_neg hv]
    simp only [Option.bind_some]
    rw [if_neg (by omega)]
    exact h0 k (by omega)
theorem driftP_len (L Q : List Ly) (m : Int) : (driftP L Q m).1.length ≤ 64 ∧ (driftP L Q m).2.1.length ≤ 64 := by
  by_cases h : (driftP L Q m).2.2 = 0
  · obtain ⟨_, _, _, v1, v2, _⟩ := drift_ok h
    exact ⟨v1.1, v2.1⟩
  · obtain ⟨e1, e2⟩ := drift_bad h
    rw [e1, e2]
    simp
theorem joinedP_len (l : List Ly) (n : Int) : (joinedP l n).1.length ≤ 64 := by
  unfold joinedP
  split
  · rename_i hv
    split
    · rename_i hn
      exact (joinTo_keeps hn.1 l.length rfl hv).1.1
    · simp
  · simp
end Go.Proofs.YtpldcikmlpegpaaDoor.Plain
end
section
namespace Go.Proofs.YtpldcikmlpegpaaDoor.PurePackOrders
open Go.RowKit Go.Proofs.YtpldcikmlpegpaaDoor.PB Go.Proofs.YtpldcikmlpegpaaDoor.Open Go.Proofs.YtpldcikmlpegpaaDoor.Plain Go.Proofs.YtpldcikmlpegpaaDoorW.PrintWords Go.Proofs.YtpldcikmlpegpaaDoorW.PrintLast Go.Proofs.YtpldcikmlpegpaaDoorW.PrintMore
theorem walked (A0 : Option Addr) (c0 : Nat) (l0 : List Ly) (A1 : Option Addr) (c1 : Nat) (l1 : List Ly) (n m : Int) (w : World) (hr0 : Kd.C k48 w A0 l0.length l0) (hc0 : l0.length ≤ c0) (hr1 : Kd.C k48 w A1 l1.length l1) (hc1 : l1.length ≤ c1) (_ : ∀ x ∈ l0, LyI x) (_ : ∀ x ∈ l1, LyI x) (_ : i64 n) (_ : i64 m) (hG : Glob w) :
    Calls Tryd.prog 7 #[.agg #[.slice A0 l0.length c0], .agg #[.slice A1 l1.length c1], .int .i64 n, .int .i64 m] w fun e w' => e = .returned (.bool true) ∧ Below w.heap.size w w' := by
  obtain ⟨kf, hf⟩ := few_two l0 l1
  obtain ⟨kj, hj⟩ := rjoined_eq l0 n
  obtain ⟨kd, hd⟩ := rdrift_eq l0 l1 m
  have b1 := driftP_len l0 l1 m
  have b2 := joinedP_len l0 n
  have hk : ∃ k, 200 ≤ k ∧ kf ≤ k ∧ kj ≤ k ∧ kd ≤ k := ⟨max 200 (max kf (max kj kd)), by omega⟩
  obtain ⟨k, h0, h1, h2, h3⟩ := hk
  exact packOrders_walk A0 c0 l0 A1 c1 l1 n m _ k (hf k h1) (lessP l0 l1).1 (lessP l0 l1).2 (less_eq (by omega) l0 l1) (rless_eq (by omega) l0 l1) (joinedP l0 n).1 (joinedP l0 n).2 (joined_eq l0 n) (hj k h2)
    (driftP l0 l1 m).1 (driftP l0 l1 m).2.1 (driftP l0 l1 m).2.2 (drift_eq l0 l1 m) (hd k h3) (by rw [same_eq (by omega) (by omega), decide_eq_true rfl]) (by rw [same_eq (by omega) (by omega), decide_eq_true rfl]) (by rw [same_eq (by omega) (by omega), decide_eq_true rfl]) w hr0 hc0 hr1 hc1 hG
end Go.Proofs.YtpldcikmlpegpaaDoor.PurePackOrders
end
section
namespace Go.Proofs.YtpldcikmlpegpaaDoor.packOrders
open Go.ChangeShapes Go.WideShapes Go.ChangeAt Go.RowKit Go.Proofs.YtpldcikmlpegpaaDoor.Open Go.Proofs.YtpldcikmlpegpaaDoor.PB
set_option linter.unusedVariables false
set_option maxRecDepth 100000 in
theorem lifted (os : Os) (started : os.Started) (H : Type) (enc : TypeId × Value → H) :
    ReturnsInHanded {} Tryd.checked os 7 .any (fun w args => (Rows.packOrdersSpec.pre enc Tryd.prog Tryd.f7 [] false w args ∧ laidMetH Tryd.prog laid3 w) ∧ sizedMet enc Tryd.prog Tryd.f7 (OpenSpec.ofChange Rows.packOrdersSpec) false w args)
      (Rows.packOrdersSpec.post enc Tryd.prog Tryd.f7 false true false false) := by
  refine returnsInHanded_of_change_and (C := Tryd.checked) (X := fun w _ => laidMetH Tryd.prog laid3 w) (fun _ _ _ hh h => h.of_heap hh) own started (by kernel_rfl) Tryd.func7
    (ChangeSpec.witness_shaped (enc := enc) (C := Tryd.checked) (os := os) (X := fun w _ => laidMetH Tryd.prog laid3 w) false (World.doorLaid Tryd.prog 400 os) #[.agg #[.slice none 0 0], .agg #[.slice none 0 0], .int .i64 0, .int .i64 0] 8 rfl (World.shaped_of_RefB (by kernel_rfl) (by kernel_rfl)) (by kernel_rfl) (by kernel_rfl) (by kernel_rfl) (door_met os _)) ?_
  intro W base args ds gs before hval0 hW _ _ hL _
  have hval : ∀ (j : Nat) t v, Tryd.f7.params[j]? = some t → args[j]? = some v → Value.okWide Tryd.prog W .any base t v := hval0
  have hW' := hW
  obtain ⟨p, q, hA0, hV, rfl, hfz, hnd⟩ := hW
  have hA : DataW.TrodAll enc Tryd.prog W 0 (fun _ => true) true Tryd.f7.params.toList args.toList ds p := hA0
  rw [Tryd.params7] at hA hval
  obtain ⟨v0, vs0, d0, ds0, p0, q0, hargs, rfl, rfl, h0, r0⟩ := trodAll_cons hA
  obtain ⟨v1, vs1, d1, ds1, p1, q1, rfl, rfl, rfl, h1, r1⟩ := trodAll_cons r0
  obtain ⟨v2, vs2, d2, ds2, p2, q2, rfl, rfl, rfl, h2, r2⟩ := trodAll_cons r1
  obtain ⟨v3, vs3, d3, ds3, p3, q3, rfl, rfl, rfl, h3, r3⟩ := trodAll_cons r2
  obtain ⟨rfl, rfl, rfl⟩ := trodAll_nil r3
  obtain rfl : args = #[v0, v1, v2, v3] := by cases args; simp_all
  obtain ⟨rfl, rfl⟩ := trodVars_none hV
  have k0 := h0
  have lt0 : ∀ x ∈ p0, x.block < W.heap.size := by obtain ⟨m, hm⟩ := k0; exact DataW.trod_lt m _ _ _ hm
  obtain ⟨A0, c0, l0, rfl, hl0, hC0, hi0⟩ := open_pack (hval 0 24 v0 rfl rfl) h0
  have k1 := h1
  have lt1 : ∀ x ∈ p1, x.block < W.heap.size := by obtain ⟨m, hm⟩ := k1; exact DataW.trod_lt m _ _ _ hm
  obtain ⟨A1, c1, l1, rfl, hl1, hC1, hi1⟩ := open_pack (hval 1 24 v1 rfl rfl) h1
  have k2 := h2
  have lt2 : ∀ x ∈ p2, x.block < W.heap.size := by obtain ⟨m, hm⟩ := k2; exact DataW.trod_lt m _ _ _ hm
  obtain ⟨a2, rfl, _, _, w2⟩ := open_int Tryd.underlying3 (hval 2 3 v2 rfl rfl) h2
  have k3 := h3
  have lt3 : ∀ x ∈ p3, x.block < W.heap.size := by obtain ⟨m, hm⟩ := k3; exact DataW.trod_lt m _ _ _ hm
  obtain ⟨a3, rfl, _, _, w3⟩ := open_int Tryd.underlying3 (hval 3 3 v3 rfl rfl) h3
  clear hA0 hval0
  refine (PurePackOrders.walked A0 c0 l0 A1 c1 l1 a2 a3 W hC0 hl0 hC1 hl1 hi0 hi1 w2 w3 (glob_of hL)).mono ?_
  rintro e W' ⟨rfl, bel⟩
  exact ⟨_, rfl, _, _, _, [], _, [], hW', trodAll_mk1 (shut_bool Tryd.underlying4 _), (trodAll_cons_mk (Below.trod laidOut (by kernel_rfl) (of_decide_eq_true (by kernel_rfl)) k0 bel lt0) (trodAll_cons_mk (Below.trod laidOut (by kernel_rfl) (of_decide_eq_true (by kernel_rfl)) k1 bel lt1) (trodAll_cons_mk (Below.trod laidOut (by kernel_rfl) (of_decide_eq_true (by kernel_rfl)) k2 bel lt2) (trodAll_cons_mk (Below.trod laidOut (by kernel_rfl) (of_decide_eq_true (by kernel_rfl)) k3 bel lt3) trodAll_mk0)))), rfl, bel.frame _, fun h => by cases h⟩
theorem over : Rows.PackOrdersSaid :=
  OpenClaim.holds_of_wide 7 Tryd.f7 rfl rfl rfl rfl rfl rfl rfl ⟨rfl, rfl, rfl, rfl, rfl⟩ rfl rfl rfl rfl rfl (by kernel_rfl) Tryd.func7 (by kernel_rfl)
    (of_decide_eq_true (by kernel_rfl)) (by unfold Func.isWrapper; first | (rw [if_pos (by decide +kernel)]; kernel_rfl) | (rw [if_neg (by decide +kernel)]; exact ⟨rfl, rfl⟩))
    (fun os started H enc _ => lifted os started H enc)
theorem card_holds : Rows.PackOrdersCardSaid :=
  Claim7.holds_tied_plain_at .later [] [.data, .data, .data] true (true, "e4590a7662fcc404b2e76501190c3f3756a1f45f85c3a8ba53dbb8ae7a261990") false
    over (fun _ h => by cases h) (by kernel_rfl) (fun _ h => by cases h) packOrders_row_tie rfl ⟨rfl, rfl⟩ (by kernel_rfl) rfl
    (fun f fn hf hfn => by
      obtain rfl : f = 7 := Option.some.inj ((show Tryd.prog.funcNamed "snowline/snowlinelaw02.PackOrders" = some 7 by kernel_rfl).symm.trans hf) |>.symm
      obtain rfl : fn = Tryd.f7 := (Option.some.inj (Tryd.func7.symm.trans hfn)).symm
      exact ⟨by kernel_rfl, fun j t ht => by
        rw [Tryd.params7] at ht
        have hm : t ∈ [24, 24, 3, 3] := by simpa using Array.mem_of_getElem? ht
        have hall : ([24, 24, 3, 3].all fun u => !Tryd.prog.wantsStandIn u) = true := by kernel_rfl
        exact (show Tryd.prog.wantsStandIn t = false by simpa using List.all_eq_true.1 hall t hm)⟩)
    (by kernel_rfl)
end Go.Proofs.YtpldcikmlpegpaaDoor.packOrders
end
