/-
A part of the proof of this: snowlinelaw02.PackTexts is true (texts match the specification and are inverse), on the condition that the arguments hold together at most 1048576 values and letters (the second form, Upto).
-/
import Derived.Deep.RegionHeld3
import Derived.Outline
import Derived.Deep.DeepCutAuto
import Derived.RegionTactic
import Derived.BigRegion
import Derived.Deep.RegionWith
import Derived.Laws.CopyOwn
import Derived.Deep.RegionLaw
import Derived.Test.YtpldcikmlpegpaaGreatDoorPackTextsA1
import Derived.Test.YtpldcikmlpegpaaGreatDoorPackTextsA2
section
namespace Go.Proofs.YtpldcikmlpegpaaGreatDoor.Col
open Go.RowKit Go.Proofs.YtpldcikmlpegpaaGreatDoor.PB Go.Proofs.YtpldcikmlpegpaaGreatDoorW.PrintWords Go.Proofs.YtpldcikmlpegpaaGreatDoorW.PrintLast Go.Proofs.YtpldcikmlpegpaaGreatDoorW.PrintMore
structure KeepG (g : Nat) (w w' : World) : Prop where
  os : w'.os = w.os
  tape : w'.tape = w.tape
  output : w'.output = w.output
  size : w.heap.size ≤ w'.heap.size
  block : ∀ k, k < w.heap.size → k ≠ g → w'.heap[k]? = w.heap[k]?
theorem KeepG.refl (g : Nat) (w : World) : KeepG g w w := ⟨rfl, rfl, rfl, Nat.le_refl _, fun _ _ _ => rfl⟩
theorem KeepG.trans {g : Nat} {a b c : World} (h : KeepG g a b) (k : KeepG g b c) : KeepG g a c :=
  ⟨k.os.trans h.os, k.tape.trans h.tape, k.output.trans h.output, Nat.le_trans h.size k.size, fun i hi hg => (k.block i (Nat.lt_of_lt_of_le hi h.size) hg).trans (h.block i hi hg)⟩
theorem KeepG.of_below {g : Nat} {w w' : World} (h : Below w.heap.size w w') : KeepG g w w' := ⟨h.os, h.tape, h.output, h.size, fun k hk _ => h.block k hk⟩
theorem KeepG.below {g B : Nat} {w0 w w' : World} (h : KeepG g w w') (hb : Below B w0 w) (hB : B ≤ g) (hs : B ≤ w.heap.size) : Below B w0 w' :=
  ⟨h.os.trans hb.os, h.tape.trans hb.tape, h.output.trans hb.output, Nat.le_trans hb.size h.size, fun k hk => (h.block k (by omega) (by omega)).trans (hb.block k hk)⟩
theorem KeepG.set (g : Nat) (w : World) (i : Nat) (v : Value) : KeepG g w (w.setCell ⟨g, i, none⟩ v) := by
  refine ⟨?_, ?_, ?_, ?_, fun k hk hg => Below.heap_setCell w ⟨g, i, none⟩ v k hg⟩
  all_goals (unfold World.setCell; first | rfl | (split <;> first | rfl | simp) | simp)
theorem KeepG.drew (g : Nat) (w : World) : KeepG g w w.drew := ⟨rfl, rfl, rfl, Nat.le_refl _, fun _ _ _ => rfl⟩
theorem KeepG.drewN (g : Nat) (w : World) (n : Nat) : KeepG g w (w.drewN n) := ⟨rfl, rfl, rfl, Nat.le_refl _, fun _ _ _ => rfl⟩
theorem KeepG.blk {g k : Nat} {w w' : World} {o : Obj} (h : KeepG g w w') (hb : w.heap[k]? = some o) (hg : k ≠ g) : w'.heap[k]? = some o := (h.block k (blk_lt hb) hg).trans hb
def lcells (l : S47) : List Value := [.int .i64 l.f0, .int .i64 l.f1, .int .i64 l.f2]
structure C where
  at_ : List S47
  top : Nat
  n : Nat
  out : Int
  taken : Int
def cells (c : C) : List Value := c.at_.flatMap lcells ++ [.int .i64 (c.top : Int), .int .i64 (c.n : Int), .int .i64 c.out, .int .i64 c.taken]
def Is (w : World) (g : Nat) (c : C) : Prop := c.at_.length = 65 ∧ w.heap[g]? = some (.cells (cells c).toArray 72 (0, 0))
theorem flat_len (xs : List S47) : (xs.flatMap lcells).length = xs.length * 3 := by
  induction xs with
  | nil => rfl
  | cons x xs ih => rw [List.flatMap_cons, List.length_append, ih]; simp [lcells]; omega
theorem flat_get (xs : List S47) : ∀ (i j : Nat), i < xs.length → j < 3 → (xs.flatMap lcells)[i * 3 + j]? = (lcells (xs.getD i z47))[j]? := by
  induction xs with
  | nil => intro i j h; simp at h
  | cons x xs ih =>
    intro i j h hj
    rw [List.flatMap_cons]
    cases i with
    | zero => rw [List.getElem?_append_left (by simp [lcells]; omega)]; simp
    | succ i =>
      rw [List.getElem?_append_right (by simp [lcells]; omega)]
      have e : (i + 1) * 3 + j - (lcells x).length = i * 3 + j := by simp [lcells]; omega
      rw [e, ih i j (by simpa using h) hj]
      simp
theorem flat_set (xs : List S47) : ∀ (i j : Nat) (v : Value) (y : S47), i < xs.length → j < 3 → (lcells (xs.getD i z47)).set j v = lcells y → (xs.flatMap lcells).set (i * 3 + j) v = (xs.set i y).flatMap lcells := by
  induction xs with
  | nil => intro i j v y h; simp at h
  | cons x xs ih =>
    intro i j v y h hj e
    rw [List.flatMap_cons]
    cases i with
    | zero =>
      rw [List.set_append_left _ _ (by simp [lcells]; omega)]
      simp at e
      simp [e]
    | succ i =>
      rw [List.set_append_right _ _ (by simp [lcells]; omega)]
      have e2 : (i + 1) * 3 + j - (lcells x).length = i * 3 + j := by simp [lcells]; omega
      rw [e2, ih i j v y (by simpa using h) hj (by simpa using e)]
      simp
section
variable {w : World} {g : Nat} {c : C}
theorem Is.cell (h : Is w g c) (k : Nat) : w.cell? ⟨g, k, none⟩ = (cells c)[k]? := by
  rw [blk_cell h.2]; simp
theorem Is.layer (h : Is w g c) (i j : Nat) (hi : i < 65) (hj : j < 3) : w.cell? ⟨g, i * 3 + j, none⟩ = (lcells (c.at_.getD i z47))[j]? := by
  rw [h.cell]
  unfold cells
  rw [List.getElem?_append_left (by rw [flat_len, h.1]; omega), flat_get _ _ _ (by rw [h.1]; exact hi) hj]
theorem Is.ice (h : Is w g c) (i : Nat) (hi : i < 65) : w.cell? ⟨g, i * 3, none⟩ = some (.int .i64 (c.at_.getD i z47).f0) := h.layer i 0 hi (by omega)
theorem Is.wet (h : Is w g c) (i : Nat) (hi : i < 65) : w.cell? ⟨g, i * 3 + 1, none⟩ = some (.int .i64 (c.at_.getD i z47).f1) := h.layer i 1 hi (by omega)
theorem Is.cold (h : Is w g c) (i : Nat) (hi : i < 65) : w.cell? ⟨g, i * 3 + 2, none⟩ = some (.int .i64 (c.at_.getD i z47).f2) := h.layer i 2 hi (by omega)
theorem Is.tail (h : Is w g c) (j : Nat) : w.cell? ⟨g, 195 + j, none⟩ = ([.int .i64 (c.top : Int), .int .i64 (c.n : Int), .int .i64 c.out, .int .i64 c.taken] : List Value)[j]? := by
  rw [h.cell]
  unfold cells
  have e : 195 + j - 65 * 3 = j := by omega
  rw [List.getElem?_append_right (by rw [flat_len, h.1]; omega), flat_len, h.1, e]
theorem Is.top (h : Is w g c) : w.cell? ⟨g, 195, none⟩ = some (.int .i64 (c.top : Int)) := h.tail 0
theorem Is.n (h : Is w g c) : w.cell? ⟨g, 196, none⟩ = some (.int .i64 (c.n : Int)) := h.tail 1
theorem Is.out (h : Is w g c) : w.cell? ⟨g, 197, none⟩ = some (.int .i64 c.out) := h.tail 2
theorem Is.taken (h : Is w g c) : w.cell? ⟨g, 198, none⟩ = some (.int .i64 c.taken) := h.tail 3
theorem Is.free (h : Is w g c) (k : Nat) : w.frozen? ⟨g, k, none⟩ = false := blk_frozen h.2 k
theorem Is.lt (h : Is w g c) : g < w.heap.size := blk_lt h.2
theorem Is.put (h : Is w g c) (k : Nat) (v : Value) {c' : C} (hl : c'.at_.length = 65) (e : (cells c).set k v = cells c') : Is (w.setCell ⟨g, k, none⟩ v) g c' := by
  refine ⟨hl, ?_⟩
  rw [blk_set h.2, List.setIfInBounds_toArray, e]
theorem Is.putLayer (h : Is w g c) (i j : Nat) (hi : i < 65) (hj : j < 3) (v : Value) (y : S47) (e : (lcells (c.at_.getD i z47)).set j v = lcells y) : Is (w.setCell ⟨g, i * 3 + j, none⟩ v) g { c with at_ := c.at_.set i y } := by
  refine h.put _ _ (by simp [h.1]) ?_
  unfold cells
  rw [List.set_append_left _ _ (by rw [flat_len, h.1]; omega), flat_set _ _ _ _ y (by rw [h.1]; exact hi) hj e]
theorem Is.putIce (h : Is w g c) (i : Nat) (hi : i < 65) (x : Int) : Is (w.setCell ⟨g, i * 3, none⟩ (.int .i64 x)) g { c with at_ := c.at_.set i ⟨x, (c.at_.getD i z47).f1, (c.at_.getD i z47).f2⟩ } := h.putLayer i 0 hi (by omega) _ _ rfl
theorem Is.putWet (h : Is w g c) (i : Nat) (hi : i < 65) (x : Int) : Is (w.setCell ⟨g, i * 3 + 1, none⟩ (.int .i64 x)) g { c with at_ := c.at_.set i ⟨(c.at_.getD i z47).f0, x, (c.at_.getD i z47).f2⟩ } := h.putLayer i 1 hi (by omega) _ _ rfl
theorem Is.putCold (h : Is w g c) (i : Nat) (hi : i < 65) (x : Int) : Is (w.setCell ⟨g, i * 3 + 2, none⟩ (.int .i64 x)) g { c with at_ := c.at_.set i ⟨(c.at_.getD i z47).f0, (c.at_.getD i z47).f1, x⟩ } := h.putLayer i 2 hi (by omega) _ _ rfl
theorem Is.putTail (h : Is w g c) (j : Nat) (v : Value) {c' : C} (ha : c'.at_ = c.at_) (e : ([.int .i64 (c.top : Int), .int .i64 (c.n : Int), .int .i64 c.out, .int .i64 c.taken] : List Value).set j v = [.int .i64 (c'.top : Int), .int .i64 (c'.n : Int), .int .i64 c'.out, .int .i64 c'.taken]) : Is (w.setCell ⟨g, 195 + j, none⟩ v) g c' := by
  refine h.put _ _ (by rw [ha, h.1]) ?_
  unfold cells
  have e' : 195 + j - 65 * 3 = j := by omega
  rw [ha, List.set_append_right _ _ (by rw [flat_len, h.1]; omega), flat_len, h.1, e', e]
theorem Is.putTop (h : Is w g c) (x : Nat) : Is (w.setCell ⟨g, 195, none⟩ (.int .i64 (x : Int))) g { c with top := x } := h.putTail 0 _ rfl rfl
theorem Is.putOut (h : Is w g c) (x : Int) : Is (w.setCell ⟨g, 197, none⟩ (.int .i64 x)) g { c with out := x } := h.putTail 2 _ rfl rfl
theorem Is.putTaken (h : Is w g c) (x : Int) : Is (w.setCell ⟨g, 198, none⟩ (.int .i64 x)) g { c with taken := x } := h.putTail 3 _ rfl rfl
theorem Is.drew (h : Is w g c) : Is w.drew g c := ⟨h.1, h.2⟩
theorem Is.drewN (h : Is w g c) (n : Nat) : Is (w.drewN n) g c := ⟨h.1, h.2⟩
theorem Is.alloc (h : Is w g c) (o : Obj) : Is (w.alloc o) g c := ⟨h.1, blk_alloc h.2 o⟩
theorem Is.below {w' : World} (h : Is w g c) (hb : Below w.heap.size w w') : Is w' g c := ⟨h.1, blk_below h.2 hb⟩
end
end Go.Proofs.YtpldcikmlpegpaaGreatDoor.Col
end
section
namespace Go.Proofs.YtpldcikmlpegpaaGreatDoor.Col
open Go.RowKit Go.Proofs.YtpldcikmlpegpaaGreatDoor.PB Go.Proofs.YtpldcikmlpegpaaGreatDoorW.PrintWords Go.Proofs.YtpldcikmlpegpaaGreatDoorW.PrintLast Go.Proofs.YtpldcikmlpegpaaGreatDoorW.PrintMore
attribute [local go_sem] max2_int min2_int max_two min_two
def stepW (l : S47) (m : Int) : S47 × Int :=
  let fr := mn m l.f2
  let ice := wrap64 (l.f0 + fr)
  let m1 := wrap64 (m - fr)
  let kept := mn m1 (wrap64 (wrap64 (Int.tdiv ice 20) - l.f1))
  (⟨ice, wrap64 (l.f1 + kept), wrap64 (l.f2 - fr)⟩, wrap64 (m1 - kept))
def flowAt : Nat → List S47 → Nat → Int → List S47 × Int
  | 0, a, _, m => (a, m)
  | d + 1, a, i, m => if 0 < m then flowAt d (a.set i (stepW (a.getD i z47) m).1) (i + 1) (stepW (a.getD i z47) m).2 else (a, m)
theorem getD_set_self (a : List S47) (j : Nat) (y : S47) (h : j < a.length) : (a.set j y).getD j z47 = y := by
  simp [List.getD_eq_getElem?_getD, h]
theorem keepL {W0 w' : World} {g k : Nat} {a b c : Value} (h0 : W0.cell? ⟨g, k, none⟩ = some a) (h1 : W0.cell? ⟨g, k + 1, none⟩ = some b) (h2 : W0.cell? ⟨g, k + 2, none⟩ = some c) (hb : Below W0.heap.size W0 w') :
    w'.cell? ⟨g, k, none⟩ = some a ∧ w'.cell? ⟨g, k + 1, none⟩ = some b ∧ w'.cell? ⟨g, k + 2, none⟩ = some c ∧ Below W0.heap.size W0 w' :=
  ⟨pw_cell_below hb h0, pw_cell_below hb h1, pw_cell_below hb h2, hb⟩
set_option maxHeartbeats 1000000 in
theorem flow_calls (w : World) (g : Nat) (c : C) (i nn : Nat) (m : Int) (h : Is w g c) (hn : c.n = nn) (hn65 : nn ≤ 65) (hi : i ≤ nn) :
    Calls Tryz.prog 59 #[.pointer (some ⟨g, 0, none⟩), .int .i64 i, .int .i64 m] w fun e w' => e = .returned (.tuple #[]) ∧
      Is w' g { c with at_ := (flowAt (nn - i) c.at_ i m).1, out := wrap64 (c.out + (flowAt (nn - i) c.at_ i m).2) } ∧ KeepG g w w' := by
  have hu := Tryz.underlying47
  have HI := Aside0.mk h
  have HN := Aside0.mk hn
  clear h hn
  go_enter Tryz.func59, Tryz.ntmps59
  go_wp2
  go_loopg [1, 2] (nn - i) (fun dq v1 v2 w' => ∃ (j : Nat) (q : Int) (a : List S47), v1 = .int .i64 j ∧ v2 = .int .i64 q ∧ j ≤ nn ∧ dq = nn - j ∧ Aside0 (flowAt dq a j q = flowAt (nn - i) c.at_ i m) ∧ Aside0 (Is w' g { c with at_ := a }) ∧ Aside0 (KeepG g w w'))
  case atStart => exact ⟨i, m, c.at_, rfl, rfl, hi, rfl, ⟨rfl⟩, HI, ⟨KeepG.refl _ _⟩⟩
  case round =>
    obtain ⟨j, q, a, rfl, rfl, hj, hd, HE, HC, HK⟩ := hrel
    by_cases hb : j < nn ∧ 0 < q
    · obtain ⟨hj1, hq1⟩ := hb
      have t1 : decide (j < nn) = true := decide_eq_true hj1
      have t2 : decide (0 < q) = true := decide_eq_true hq1
      have b1 : j < 65 := by omega
      have hcn : wr.cell? ⟨g, 196, none⟩ = some (.int .i64 (nn : Int)) := by have := HC.out.n; rw [HN.out] at this; exact this
      have hc0 := HC.out.ice j b1
      have hc1 := HC.out.wet j b1
      have hc2 := HC.out.cold j b1
      have hf := HC.out.free
      obtain ⟨l, hl⟩ : ∃ l, l = a.getD j z47 := ⟨_, rfl⟩
      simp only [← hl] at hc0 hc1 hc2
      have HL := Aside0.mk hl
      clear hl
      obtain ⟨fr, hfr⟩ : ∃ fr, (if l.f2 < q then l.f2 else q) = fr := ⟨_, rfl⟩
      go_wp2
      have HFR : Aside0 (mn q l.f2 = fr) := ⟨hfr⟩
      clear hfr
      obtain ⟨W2, hW2⟩ : ∃ W2, (wr.setCell ⟨g, j * 3, none⟩ (.int .i64 (wrap64 (l.f0 + fr)))).setCell ⟨g, j * 3 + 2, none⟩ (.int .i64 (wrap64 (l.f2 - fr))) = W2 := ⟨_, rfl⟩
      rw [hW2]
      have HC2 : Aside0 (Is W2 g { c with at_ := a.set j ⟨wrap64 (l.f0 + fr), l.f1, wrap64 (l.f2 - fr)⟩ }) := by
        have hlen := HC.out.1
        have := (HC.out.putIce j b1 (wrap64 (l.f0 + fr))).putCold j b1 (wrap64 (l.f2 - fr))
        rw [hW2] at this
        refine ⟨?_⟩
        simpa [List.getD_eq_getElem?_getD, List.getElem?_set_self, show j < a.length by simpa [hlen] using b1, List.set_set, HL.out] using this
      have HK2 : Aside0 (KeepG g w W2) := ⟨by rw [← hW2]; exact (HK.out.trans (KeepG.set _ _ _ _)).trans (KeepG.set _ _ _ _)⟩
      have hla : j < a.length := by have := HC.out.1; dsimp only at this; omega
      have k0 : W2.cell? ⟨g, j * 3, none⟩ = some (.int .i64 (wrap64 (l.f0 + fr))) := by have := HC2.out.ice j b1; rwa [getD_set_self _ _ _ hla] at this
      have k1 : W2.cell? ⟨g, j * 3 + 1, none⟩ = some (.int .i64 l.f1) := by have := HC2.out.wet j b1; rwa [getD_set_self _ _ _ hla] at this
      have k2 : W2.cell? ⟨g, j * 3 + 2, none⟩ = some (.int .i64 (wrap64 (l.f2 - fr))) := by have := HC2.out.cold j b1; rwa [getD_set_self _ _ _ hla] at this
      clear hc0 hc1 hc2 hf hcn hW2
      go_region_held3 (fun w' => w'.cell? ⟨g, j * 3, none⟩ = some (.int .i64 (wrap64 (l.f0 + fr))) ∧ w'.cell? ⟨g, j * 3 + 1, none⟩ = some (.int .i64 l.f1) ∧ w'.cell? ⟨g, j * 3 + 2, none⟩ = some (.int .i64 (wrap64 (l.f2 - fr))) ∧ Below W2.heap.size W2 w')
        ((go_split_ands; refine keepL k0 k1 k2 ?_; first | assumption | exact (Below.refl _ _).drew | exact below_step (by assumption) (by assumption)))
        (first | (go_at_call 36; refine (pack_hold.calls _ _ _ _ _ rfl).mono ?_; rintro e w' ⟨rfl, hb⟩))
      rename_i hHeld
      obtain ⟨c0, c1, c2, hB⟩ := hHeld
      have HC3 := Aside0.mk (HC2.out.below hB)
      have HK3 := Aside0.mk (HK2.out.trans (KeepG.of_below hB))
      clear hb hB k0 k1 k2 c0 c2 HC2 HK2 HC HK
      obtain ⟨kp, hkp⟩ : ∃ kp, (if wrap64 (wrap64 ((wrap64 (l.f0 + fr)).tdiv 20) - l.f1) < wrap64 (q - fr) then wrap64 (wrap64 ((wrap64 (l.f0 + fr)).tdiv 20) - l.f1) else wrap64 (q - fr)) = kp := ⟨_, rfl⟩
      simp only [i64_w]
      rw [hkp]
      have HKP : Aside0 (mn (wrap64 (q - fr)) (wrap64 (wrap64 ((wrap64 (l.f0 + fr)).tdiv 20) - l.f1)) = kp) := ⟨hkp⟩
      clear hkp
      have hf := HC3.out.free
      go_wp2
      go_roundg (nn - (j + 1))
      case measure => omega
      case rel =>
        refine ⟨j + 1, wrap64 (wrap64 (q - fr) - kp), a.set j ⟨wrap64 (l.f0 + fr), wrap64 (l.f1 + kp), wrap64 (l.f2 - fr)⟩, by go_num, rfl, by omega, rfl, ⟨?_⟩, ⟨?_⟩, ⟨HK3.out.trans (KeepG.set _ _ _ _)⟩⟩
        · have e : nn - j = (nn - (j + 1)) + 1 := by omega
          rw [← HE.out, hd, e]
          simp only [flowAt, if_pos hq1, stepW, ← HL.out, HFR.out, HKP.out]
        · have := HC3.out.putWet j b1 (wrap64 (l.f1 + kp))
          rw [getD_set_self _ _ _ hla] at this
          simpa [List.set_set] using this
    · have hend : flowAt gk a j q = (a, q) := by
        cases gk with
        | zero => rfl
        | succ d =>
          have : ¬ 0 < q := fun h => hb ⟨by omega, h⟩
          simp [flowAt, this]
      have HF := Aside0.mk (hend.symm.trans HE.out)
      clear hend HE
      have hcn : wr.cell? ⟨g, 196, none⟩ = some (.int .i64 (nn : Int)) := by have := HC.out.n; rw [HN.out] at this; exact this
      have hco := HC.out.out
      have hf := HC.out.free
      by_cases h1 : j < nn
      · have t1 : decide (j < nn) = true := decide_eq_true h1
        have t2 : decide (0 < q) = false := decide_eq_false (fun h => hb ⟨h1, h⟩)
        clear hb
        go_wp2
        go_end0
        exact ⟨rfl, by rw [← HF.out]; exact HC.out.putOut _, HK.out.trans (KeepG.set _ _ _ _)⟩
      · have t1 : decide (j < nn) = false := decide_eq_false h1
        clear hb
        go_wp2
        go_end0
        exact ⟨rfl, by rw [← HF.out]; exact HC.out.putOut _, HK.out.trans (KeepG.set _ _ _ _)⟩
theorem flow_calls' (w : World) (g : Nat) (c : C) (I : Int) (i : Nat) (m : Int) (hI : I = (i : Int)) (h : Is w g c) (hn65 : c.n ≤ 65) (hi : i ≤ c.n) :
    Calls Tryz.prog 59 #[.pointer (some ⟨g, 0, none⟩), .int .i64 I, .int .i64 m] w fun e w' => e = .returned (.tuple #[]) ∧
      Is w' g { c with at_ := (flowAt (c.n - i) c.at_ i m).1, out := wrap64 (c.out + (flowAt (c.n - i) c.at_ i m).2) } ∧ KeepG g w w' := by
  subst hI
  exact flow_calls w g c i c.n m h rfl hn65 hi
end Go.Proofs.YtpldcikmlpegpaaGreatDoor.Col
end
section
namespace Go.Proofs.YtpldcikmlpegpaaGreatDoor.Col
open Go.RowKit Go.Proofs.YtpldcikmlpegpaaGreatDoor.PB Go.Proofs.YtpldcikmlpegpaaGreatDoorW.PrintWords Go.Proofs.YtpldcikmlpegpaaGreatDoorW.PrintLast Go.Proofs.YtpldcikmlpegpaaGreatDoorW.PrintMore
attribute [local go_sem] max2_int min2_int max_two min_two
def loseW (l : S47) (more : Int) : S47 × Int :=
  (⟨wrap64 (l.f0 - 1), mn (wrap64 (l.f1 + more)) (wrap64 ((wrap64 (l.f0 - 1)).tdiv 20)), l.f2⟩, wrap64 (wrap64 (l.f1 + more) - mn (wrap64 (l.f1 + more)) (wrap64 ((wrap64 (l.f0 - 1)).tdiv 20))))
def C.lose (c : C) (more : Int) : C :=
  let l := c.at_.getD c.top z47
  let r := flowAt (c.n - (c.top + 1)) (c.at_.set c.top (loseW l more).1) (c.top + 1) (loseW l more).2
  { c with at_ := r.1, top := if wrap64 (l.f0 - 1) = 0 then c.top + 1 else c.top, out := wrap64 (c.out + r.2) }
set_option maxRecDepth 100000 in
set_option maxHeartbeats 1000000 in
theorem lose_calls (w : World) (g : Nat) (c : C) (more : Int) (h : Is w g c) (hn65 : c.n ≤ 65) (ht : c.top < c.n) :
    Calls Tryz.prog 74 #[.pointer (some ⟨g, 0, none⟩), .int .i64 more] w fun e w' => e = .returned (.tuple #[]) ∧ Is w' g (c.lose more) ∧ KeepG g w w' := by
  have hu := Tryz.underlying47
  have HI := Aside0.mk h
  clear h
  obtain ⟨t, hct⟩ : ∃ t, c.top = t := ⟨_, rfl⟩
  have b1 : t < 65 := by omega
  obtain ⟨l, hl⟩ : ∃ l, l = c.at_.getD t z47 := ⟨_, rfl⟩
  have hla : t < c.at_.length := by have := HI.out.1; omega
  have htop := HI.out.top
  have hc0 := HI.out.ice t b1
  have hc1 := HI.out.wet t b1
  have hc2 := HI.out.cold t b1
  have hf := HI.out.free
  rw [hct] at htop
  simp only [← hl] at hc0 hc1 hc2
  have HL := Aside0.mk hl
  have HT := Aside0.mk hct
  have HN := Aside0.mk hn65
  have HTN := Aside0.mk ht
  clear hl hct hn65 ht
  go_enter Tryz.func74, Tryz.ntmps74
  go_wp2
  go_quiet (fail)
  go_upto_region 4 with (first | (go_at_call 36; refine (pack_hold.calls _ _ _ _ _ rfl).mono ?_; rintro e w1 ⟨rfl, hb⟩; have HC1 := Aside0.mk (((HI.out.drewN nq).putIce t b1 (wrap64 (l.f0 - 1))).below hb); have HK1 := Aside0.mk (((KeepG.drewN g w nq).trans (KeepG.set _ _ _ _)).trans (KeepG.of_below hb)); have hf1 := HC1.out.free; have hc3 := HC1.out.wet t b1; clear hb htop hf hc0 hc1 hc2))
  obtain ⟨ice, hice⟩ : ∃ x, wrap64 (l.f0 - 1) = x := ⟨_, rfl⟩
  obtain ⟨liq, hliq⟩ : ∃ x, wrap64 (l.f1 + more) = x := ⟨_, rfl⟩
  simp only [hice, hliq] at HC1 ⊢
  obtain ⟨wt, hwt⟩ : ∃ x, (if wrap64 (ice.tdiv 20) < liq then wrap64 (ice.tdiv 20) else liq) = x := ⟨_, rfl⟩
  rw [hwt]
  obtain ⟨W2, hW2⟩ : ∃ W2, w1.setCell ⟨g, t * 3 + 1, none⟩ (.int .i64 wt) = W2 := ⟨_, rfl⟩
  rw [hW2]
  have HC2 : Aside0 (Is W2 g { c with at_ := c.at_.set t ⟨ice, wt, l.f2⟩ }) := by
    have := HC1.out.putWet t b1 wt
    rw [hW2, getD_set_self _ _ _ hla] at this
    refine ⟨?_⟩
    simpa [List.set_set, HL.out] using this
  have HK2 : Aside0 (KeepG g w W2) := ⟨by rw [← hW2]; exact HK1.out.trans (KeepG.set _ _ _ _)⟩
  have HLW : Aside0 (loseW l more = (⟨ice, wt, l.f2⟩, wrap64 (liq - wt))) := ⟨by
    have : mn liq (wrap64 (ice.tdiv 20)) = wt := hwt
    simp only [loseW, hice, hliq, this]⟩
  have HICE := Aside0.mk hice
  clear hice hliq hwt hW2 hf1 hc3 HC1 HK1
  have c0 : W2.cell? ⟨g, t * 3, none⟩ = some (.int .i64 ice) := by have := HC2.out.ice t b1; rwa [getD_set_self _ _ _ hla] at this
  have c1 : W2.cell? ⟨g, t * 3 + 1, none⟩ = some (.int .i64 wt) := by have := HC2.out.wet t b1; rwa [getD_set_self _ _ _ hla] at this
  have htop : W2.cell? ⟨g, 195, none⟩ = some (.int .i64 (t : Int)) := by have := HC2.out.top; rw [← HT.out]; exact this
  have hf := HC2.out.free
  by_cases hz : ice = 0
  · have z0 : (ice == 0) = true := by simp [hz]
    have HZ := Aside0.mk hz
    clear hz
    go_upto_region 8 with (fail)
    obtain ⟨W3, hW3⟩ : ∃ W3, W2.setCell ⟨g, 195, none⟩ (.int .i64 ((t : Int) + 1)) = W3 := ⟨_, rfl⟩
    rw [hW3]
    have HC3 : Aside0 (Is W3 g { c with at_ := c.at_.set t ⟨ice, wt, l.f2⟩, top := t + 1 }) := ⟨by rw [← hW3]; exact HC2.out.putTop (t + 1)⟩
    have HK3 : Aside0 (KeepG g w W3) := ⟨by rw [← hW3]; exact HK2.out.trans (KeepG.set _ _ _ _)⟩
    clear hW3 htop c0 c1 hf HC2 HK2
    go_wp2_with (first | (go_at_call 59; refine (flow_calls' _ g { c with at_ := c.at_.set t ⟨ice, wt, l.f2⟩, top := t + 1 } _ (t + 1) _ (by omega) HC3.out HN.out (by have := HTN.out; have := HT.out; simp only []; omega)).mono ?_; rintro e w4 ⟨rfl, hI4, hK4⟩; have HI4 := Aside0.mk hI4; have HK4 := Aside0.mk hK4; clear hI4 hK4))
    go_end0
    refine ⟨rfl, ?_, HK3.out.trans HK4.out⟩
    have e := HI4.out
    simp only [C.lose, HT.out, ← HL.out, HLW.out, HICE.out, HZ.out, if_true]
    rw [HZ.out] at e
    exact e
  · have z0 : (ice == 0) = false := by simp [hz]
    have HZ := Aside0.mk hz
    clear hz
    go_upto_region 8 with (fail)
    clear htop c0 c1 hf
    go_wp2_with (first | (go_at_call 59; refine (flow_calls' _ g { c with at_ := c.at_.set t ⟨ice, wt, l.f2⟩ } _ (t + 1) _ (by omega) HC2.out HN.out (by have := HTN.out; have := HT.out; simp only []; omega)).mono ?_; rintro e w4 ⟨rfl, hI4, hK4⟩; have HI4 := Aside0.mk hI4; have HK4 := Aside0.mk hK4; clear hI4 hK4))
    go_end0
    refine ⟨rfl, ?_, HK2.out.trans HK4.out⟩
    have e := HI4.out
    simp only [HT.out] at e
    simp only [C.lose, HT.out, ← HL.out, HLW.out, HICE.out, if_neg HZ.out]
    exact e
def C.melt (c : C) : C :=
  let l := c.at_.getD c.top z47
  if 0 < l.f2 then { c with at_ := c.at_.set c.top ⟨l.f0, l.f1, wrap64 (l.f2 - 1)⟩ } else c.lose 1
def C.vanish (c : C) : C := { c.lose 0 with taken := wrap64 (c.taken + 1) }
set_option maxRecDepth 100000 in
set_option maxHeartbeats 1000000 in
theorem vanish_calls (w : World) (g : Nat) (c : C) (h : Is w g c) (hn65 : c.n ≤ 65) (ht : c.top < c.n) :
    Calls Tryz.prog 63 #[.pointer (some ⟨g, 0, none⟩)] w fun e w' => e = .returned (.tuple #[]) ∧ Is w' g c.vanish ∧ KeepG g w w' := by
  have HI := Aside0.mk h
  have HN := Aside0.mk hn65
  have HT := Aside0.mk ht
  clear h hn65 ht
  go_enter Tryz.func63, Tryz.ntmps63
  go_wp2_with (first | (go_at_call 74; refine (lose_calls _ g c 0 HI.out HN.out HT.out).mono ?_; rintro e w4 ⟨rfl, hI4, hK4⟩; have hcc : w4.cell? ⟨g, 198, none⟩ = some (.int .i64 c.taken) := hI4.taken; have hff := hI4.free; have HI4 := Aside0.mk hI4; have HK4 := Aside0.mk hK4; clear hI4 hK4))
  go_end0
  exact ⟨rfl, HI4.out.putTaken _, HK4.out.trans (KeepG.set _ _ _ _)⟩
set_option maxRecDepth 100000 in
set_option maxHeartbeats 1000000 in
theorem melt_calls (w : World) (g : Nat) (c : C) (h : Is w g c) (hn65 : c.n ≤ 65) (ht : c.top < c.n) :
    Calls Tryz.prog 61 #[.pointer (some ⟨g, 0, none⟩)] w fun e w' => e = .returned (.tuple #[]) ∧ Is w' g c.melt ∧ KeepG g w w' := by
  have HI := Aside0.mk h
  obtain ⟨t, hct⟩ : ∃ t, c.top = t := ⟨_, rfl⟩
  have b1 : t < 65 := by omega
  obtain ⟨l, hl⟩ : ∃ l, l = c.at_.getD t z47 := ⟨_, rfl⟩
  have htop := HI.out.top
  have hc2 := HI.out.cold t b1
  have hf := HI.out.free
  rw [hct] at htop
  simp only [← hl] at hc2
  have HL := Aside0.mk hl
  have HT := Aside0.mk hct
  have HN := Aside0.mk hn65
  have HTN := Aside0.mk ht
  clear hl hct hn65 ht h
  by_cases hz : 0 < l.f2
  · have z0 : decide (0 < l.f2) = true := decide_eq_true hz
    have HZ := Aside0.mk hz
    clear hz
    go_enter Tryz.func61, Tryz.ntmps61
    go_wp2
    go_quiet (fail)
    go_wp2
    refine bodyPost_ret (v := .tuple #[]) (results_none rfl _ _ _) rfl ⟨rfl, ?_, (KeepG.drewN g w nq).trans (KeepG.set _ _ _ _)⟩
    have e := (HI.out.drewN nq).putCold t b1 (wrap64 (l.f2 - 1))
    simp only [C.melt, HT.out, ← HL.out, if_pos HZ.out]
    simp only [HT.out, ← HL.out] at e
    exact e
  · have z0 : decide (0 < l.f2) = false := decide_eq_false hz
    have HZ := Aside0.mk hz
    clear hz
    go_enter Tryz.func61, Tryz.ntmps61
    go_wp2
    go_quiet (fail)
    go_wp2_with (first | (go_at_call 74; refine (lose_calls _ g c 1 (HI.out.drewN nq) HN.out HTN.out).mono ?_; rintro e w4 ⟨rfl, hI4, hK4⟩; have HI4 := Aside0.mk hI4; have HK4 := Aside0.mk hK4; clear hI4 hK4))
    go_end0
    refine ⟨rfl, ?_, (KeepG.drewN g w nq).trans HK4.out⟩
    have e := HI4.out
    simp only [C.melt, HT.out, ← HL.out, if_neg (show ¬ 0 < l.f2 by have := HZ.out; omega)]
    exact e
end Go.Proofs.YtpldcikmlpegpaaGreatDoor.Col
end
section
namespace Go.Proofs.YtpldcikmlpegpaaGreatDoor.Col
open Go.RowKit Go.Proofs.YtpldcikmlpegpaaGreatDoor.PB Go.Proofs.YtpldcikmlpegpaaGreatDoorW.PrintWords Go.Proofs.YtpldcikmlpegpaaGreatDoorW.PrintLast Go.Proofs.YtpldcikmlpegpaaGreatDoorW.PrintMore
attribute [local go_sem] max2_int min2_int max_two min_two
def C.times (f : C → C) : Nat → C → C
  | 0, c => c
  | k + 1, c => if c.top = c.n then c else C.times f k (f c)
structure RoundC (f : C → C) : Prop where
  n : ∀ c, (f c).n = c.n
  top : ∀ c, c.top < c.n → (f c).top ≤ c.n
theorem lose_top (c : C) (m : Int) (h : c.top < c.n) : (c.lose m).top ≤ c.n := by
  unfold C.lose
  simp only []
  split <;> omega
theorem vanish_roundC : RoundC C.vanish := ⟨fun _ => rfl, fun c h => lose_top c 0 h⟩
theorem melt_roundC : RoundC C.melt := ⟨fun c => by unfold C.melt; simp only []; split <;> rfl, fun c h => by
  unfold C.melt; simp only []
  split
  · exact Nat.le_of_lt h
  · exact lose_top c 1 h⟩
set_option maxRecDepth 100000 in
set_option maxHeartbeats 1000000 in
theorem times_melt (w : World) (g : Nat) (c : C) (m : Int) (h : Is w g c) (hn65 : c.n ≤ 65) (ht : c.top ≤ c.n) (hm : m ≤ 9223372036854775807) :
    Calls Tryz.prog 60 #[.pointer (some ⟨g, 0, none⟩), .int .i64 m, .func (.func 61) #[.pointer (some ⟨g, 0, none⟩)] #[]] w fun e w' => e = .returned (.tuple #[]) ∧ Is w' g (C.times C.melt m.toNat c) ∧ KeepG g w w' := by
  have HI := Aside0.mk h
  have HN := Aside0.mk hn65
  have HT := Aside0.mk ht
  clear h hn65 ht
  go_enter Tryz.func60, Tryz.ntmps60
  go_wp2
  go_loopg [7] m.toNat (fun dq v7 w' => ∃ (j : Nat) (d : C), v7 = .int .i64 j ∧ dq = m.toNat - j ∧ j ≤ m.toNat ∧ d.top ≤ c.n ∧ Aside0 (d.n = c.n) ∧ Aside0 (C.times C.melt dq d = C.times C.melt m.toNat c) ∧ Aside0 (Is w' g d) ∧ Aside0 (KeepG g w w'))
  case atStart => exact ⟨0, c, rfl, rfl, Nat.zero_le _, HT.out, ⟨rfl⟩, ⟨rfl⟩, HI, ⟨KeepG.refl _ _⟩⟩
  case round =>
    obtain ⟨j, d, rfl, hd, hj, hdt, HDN, HE, HD, HK⟩ := hrel
    have hf := HD.out.free
    have htop := HD.out.top
    have hnn := HD.out.n
    rw [HDN.out] at hnn
    by_cases hlt : (j : Int) < m
    · have t1 : decide ((j : Int) < m) = true := decide_eq_true hlt
      have hj3 : (j : Int) < 9223372036854775807 := by omega
      have HLT := Aside0.mk hlt
      clear hlt
      obtain ⟨nn, hcn⟩ : ∃ nn, c.n = nn := ⟨_, rfl⟩
      obtain ⟨tt, hct⟩ : ∃ tt, d.top = tt := ⟨_, rfl⟩
      rw [hcn] at hnn
      rw [hct] at htop
      go_upto_region 2 with (fail)
      by_cases he : tt = nn
      · have z0 : ((tt : Int) == (nn : Int)) = true := by simp [he]
        have HE2 := Aside0.mk he
        clear he
        go_quiet (fail)
        go_wp2
        refine bodyPost_ret (v := .tuple #[]) (results_none rfl _ _ _) rfl ⟨rfl, ?_, HK.out.trans (KeepG.drewN _ _ _)⟩
        have e : C.times C.melt gk d = d := by
          cases gk with
          | zero => rfl
          | succ k => simp only [C.times, hct, HDN.out, hcn, HE2.out, if_true]
        rw [← HE.out, e]
        exact HD.out.drewN _
      · have z0 : ((tt : Int) == (nn : Int)) = false := by simp; omega
        have HE2 := Aside0.mk he
        clear he
        have HLT2 : Aside0 (tt < nn) := ⟨by have := HE2.out; omega⟩
        have HN' : Aside0 (d.n ≤ 65) := ⟨by rw [HDN.out]; exact HN.out⟩
        have HT' : Aside0 (d.top < d.n) := ⟨by rw [HDN.out, hct, hcn]; exact HLT2.out⟩
        have HCT := Aside0.mk hct
        have HCN := Aside0.mk hcn
        clear hct hcn
        go_quiet (fail)
        clear hnn htop hf
        go_wp2_with (first | (go_at_call 61; refine (melt_calls _ g d (HD.out.drewN nq) HN'.out HT'.out).mono ?_; rintro e w4 ⟨rfl, hI4, hK4⟩; have HI4 := Aside0.mk hI4; have HK4 := Aside0.mk hK4; clear hI4 hK4))
        go_roundg (m.toNat - (j + 1))
        case measure => have := HLT.out; omega
        case rel =>
          refine ⟨j + 1, d.melt, by first | go_num | rfl, rfl, by have := HLT.out; omega, ?_, ⟨?_⟩, ⟨?_⟩, HI4, ⟨(HK.out.trans (KeepG.drewN _ _ _)).trans HK4.out⟩⟩
          · rw [← HDN.out]; exact melt_roundC.top d HT'.out
          · rw [melt_roundC.n]; exact HDN.out
          · have e : gk = (m.toNat - (j + 1)) + 1 := by have := HLT.out; omega
            rw [← HE.out, e]
            simp only [C.times, if_neg (Nat.ne_of_lt HT'.out)]
    · have t1 : decide ((j : Int) < m) = false := decide_eq_false hlt
      have HLT := Aside0.mk hlt
      clear hlt
      go_wp2
      go_end0
      have e : gk = 0 := by have := HLT.out; omega
      refine ⟨rfl, ?_, HK.out⟩
      rw [← HE.out, e]
      exact HD.out
set_option maxRecDepth 100000 in
set_option maxHeartbeats 1000000 in
theorem times_vanish (w : World) (g : Nat) (c : C) (m : Int) (h : Is w g c) (hn65 : c.n ≤ 65) (ht : c.top ≤ c.n) (hm : m ≤ 9223372036854775807) :
    Calls Tryz.prog 60 #[.pointer (some ⟨g, 0, none⟩), .int .i64 m, .func (.func 63) #[.pointer (some ⟨g, 0, none⟩)] #[]] w fun e w' => e = .returned (.tuple #[]) ∧ Is w' g (C.times C.vanish m.toNat c) ∧ KeepG g w w' := by
  have HI := Aside0.mk h
  have HN := Aside0.mk hn65
  have HT := Aside0.mk ht
  clear h hn65 ht
  go_enter Tryz.func60, Tryz.ntmps60
  go_wp2
  go_loopg [7] m.toNat (fun dq v7 w' => ∃ (j : Nat) (d : C), v7 = .int .i64 j ∧ dq = m.toNat - j ∧ j ≤ m.toNat ∧ d.top ≤ c.n ∧ Aside0 (d.n = c.n) ∧ Aside0 (C.times C.vanish dq d = C.times C.vanish m.toNat c) ∧ Aside0 (Is w' g d) ∧ Aside0 (KeepG g w w'))
  case atStart => exact ⟨0, c, rfl, rfl, Nat.zero_le _, HT.out, ⟨rfl⟩, ⟨rfl⟩, HI, ⟨KeepG.refl _ _⟩⟩
  case round =>
    obtain ⟨j, d, rfl, hd, hj, hdt, HDN, HE, HD, HK⟩ := hrel
    have hf := HD.out.free
    have htop := HD.out.top
    have hnn := HD.out.n
    rw [HDN.out] at hnn
    by_cases hlt : (j : Int) < m
    · have t1 : decide ((j : Int) < m) = true := decide_eq_true hlt
      have hj3 : (j : Int) < 9223372036854775807 := by omega
      have HLT := Aside0.mk hlt
      clear hlt
      obtain ⟨nn, hcn⟩ : ∃ nn, c.n = nn := ⟨_, rfl⟩
      obtain ⟨tt, hct⟩ : ∃ tt, d.top = tt := ⟨_, rfl⟩
      rw [hcn] at hnn
      rw [hct] at htop
      go_upto_region 2 with (fail)
      by_cases he : tt = nn
      · have z0 : ((tt : Int) == (nn : Int)) = true := by simp [he]
        have HE2 := Aside0.mk he
        clear he
        go_quiet (fail)
        go_wp2
        refine bodyPost_ret (v := .tuple #[]) (results_none rfl _ _ _) rfl ⟨rfl, ?_, HK.out.trans (KeepG.drewN _ _ _)⟩
        have e : C.times C.vanish gk d = d := by
          cases gk with
          | zero => rfl
          | succ k => simp only [C.times, hct, HDN.out, hcn, HE2.out, if_true]
        rw [← HE.out, e]
        exact HD.out.drewN _
      · have z0 : ((tt : Int) == (nn : Int)) = false := by simp; omega
        have HE2 := Aside0.mk he
        clear he
        have HLT2 : Aside0 (tt < nn) := ⟨by have := HE2.out; omega⟩
        have HN' : Aside0 (d.n ≤ 65) := ⟨by rw [HDN.out]; exact HN.out⟩
        have HT' : Aside0 (d.top < d.n) := ⟨by rw [HDN.out, hct, hcn]; exact HLT2.out⟩
        have HCT := Aside0.mk hct
        have HCN := Aside0.mk hcn
        clear hct hcn
        go_quiet (fail)
        clear hnn htop hf
        go_wp2_with (first | (go_at_call 63; refine (vanish_calls _ g d (HD.out.drewN nq) HN'.out HT'.out).mono ?_; rintro e w4 ⟨rfl, hI4, hK4⟩; have HI4 := Aside0.mk hI4; have HK4 := Aside0.mk hK4; clear hI4 hK4))
        go_roundg (m.toNat - (j + 1))
        case measure => have := HLT.out; omega
        case rel =>
          refine ⟨j + 1, d.vanish, by first | go_num | rfl, rfl, by have := HLT.out; omega, ?_, ⟨?_⟩, ⟨?_⟩, HI4, ⟨(HK.out.trans (KeepG.drewN _ _ _)).trans HK4.out⟩⟩
          · rw [← HDN.out]; exact vanish_roundC.top d HT'.out
          · rw [vanish_roundC.n]; exact HDN.out
          · have e : gk = (m.toNat - (j + 1)) + 1 := by have := HLT.out; omega
            rw [← HE.out, e]
            simp only [C.times, if_neg (Nat.ne_of_lt HT'.out)]
    · have t1 : decide ((j : Int) < m) = false := decide_eq_false hlt
      have HLT := Aside0.mk hlt
      clear hlt
      go_wp2
      go_end0
      have e : gk = 0 := by have := HLT.out; omega
      refine ⟨rfl, ?_, HK.out⟩
      rw [← HE.out, e]
      exact HD.out
end Go.Proofs.YtpldcikmlpegpaaGreatDoor.Col
end
section
namespace Go.Proofs.YtpldcikmlpegpaaGreatDoor.Col
open Go.RowKit Go.Proofs.YtpldcikmlpegpaaGreatDoor.PB Go.Proofs.YtpldcikmlpegpaaGreatDoorW.PrintWords Go.Proofs.YtpldcikmlpegpaaGreatDoorW.PrintLast Go.Proofs.YtpldcikmlpegpaaGreatDoorW.PrintMore
attribute [local go_sem] max2_int min2_int max_two min_two
def freezeAt : Nat → List S47 → Nat → Int → List S47 × Int
  | 0, a, _, m => (a, m)
  | d + 1, a, i, m => freezeAt d (a.set i ⟨wrap64 ((a.getD i z47).f0 + mn m (a.getD i z47).f1), wrap64 ((a.getD i z47).f1 - mn m (a.getD i z47).f1), (a.getD i z47).f2⟩) (i + 1) (wrap64 (m - mn m (a.getD i z47).f1))
def C.freeze (c : C) (m : Int) : C :=
  let r := freezeAt (c.n - c.top) c.at_ c.top m
  if c.top < c.n then { c with at_ := r.1.set c.top ⟨(r.1.getD c.top z47).f0, (r.1.getD c.top z47).f1, wrap64 ((r.1.getD c.top z47).f2 + r.2)⟩ } else { c with at_ := r.1 }
set_option maxRecDepth 100000 in
set_option maxHeartbeats 1000000 in
theorem freeze_calls (w : World) (g : Nat) (c : C) (m : Int) (h : Is w g c) (hn65 : c.n ≤ 65) (ht : c.top ≤ c.n) :
    Calls Tryz.prog 62 #[.pointer (some ⟨g, 0, none⟩), .int .i64 m] w fun e w' => e = .returned (.tuple #[]) ∧ Is w' g (c.freeze m) ∧ KeepG g w w' := by
  have hu := Tryz.underlying47
  have HI := Aside0.mk h
  have HT := Aside0.mk ht
  have HN := Aside0.mk hn65
  obtain ⟨nn, hnn⟩ : ∃ nn, c.n = nn := ⟨_, rfl⟩
  obtain ⟨tt, htt⟩ : ∃ tt, c.top = tt := ⟨_, rfl⟩
  have HNN := Aside0.mk hnn
  have HTT := Aside0.mk htt
  have htop := HI.out.top
  rw [htt] at htop
  have b65 : nn ≤ 65 := by omega
  have btt : tt ≤ nn := by omega
  clear h hnn htt hn65 ht
  go_enter Tryz.func62, Tryz.ntmps62
  go_wp2
  go_loopg [1, 4] (nn - tt) (fun dq v1 v4 w' => ∃ (j : Nat) (q : Int) (a : List S47), v1 = .int .i64 q ∧ v4 = .int .i64 j ∧ j ≤ nn ∧ dq = nn - j ∧ Aside0 (freezeAt dq a j q = freezeAt (nn - tt) c.at_ tt m) ∧ Aside0 (Is w' g { c with at_ := a }) ∧ Aside0 (KeepG g w w'))
  case atStart => exact ⟨tt, m, c.at_, rfl, rfl, btt, rfl, ⟨rfl⟩, HI, ⟨KeepG.refl _ _⟩⟩
  case round =>
    clear htop
    obtain ⟨j, q, a, rfl, rfl, hj, hd, HE, HC, HK⟩ := hrel
    have hcn := HC.out.n
    rw [HNN.out] at hcn
    have hf := HC.out.free
    by_cases hb : j < nn
    · have t1 : decide (j < nn) = true := decide_eq_true hb
      have b1 : j < 65 := by omega
      have hla : j < a.length := by have := HC.out.1; dsimp only at this; omega
      obtain ⟨l, hl⟩ : ∃ l, l = a.getD j z47 := ⟨_, rfl⟩
      have hc0 := HC.out.ice j b1
      have hc1 := HC.out.wet j b1
      simp only [← hl] at hc0 hc1
      have HL := Aside0.mk hl
      clear hl
      obtain ⟨fr, hfr⟩ : ∃ fr, (if l.f1 < q then l.f1 else q) = fr := ⟨_, rfl⟩
      go_wp2
      have HFR : Aside0 (mn q l.f1 = fr) := ⟨hfr⟩
      clear hfr
      go_roundg (nn - (j + 1))
      case measure => omega
      case rel =>
        refine ⟨j + 1, wrap64 (q - fr), a.set j ⟨wrap64 (l.f0 + fr), wrap64 (l.f1 - fr), l.f2⟩, rfl, by go_num, by omega, rfl, ⟨?_⟩, ⟨?_⟩, ⟨(HK.out.trans (KeepG.set _ _ _ _)).trans (KeepG.set _ _ _ _)⟩⟩
        · have e : nn - j = (nn - (j + 1)) + 1 := by omega
          rw [← HE.out, hd, e]
          simp only [freezeAt, ← HL.out, HFR.out]
        · have := (HC.out.putWet j b1 (wrap64 (l.f1 - fr))).putIce j b1 (wrap64 (l.f0 + fr))
          rw [getD_set_self _ _ _ hla] at this
          simp only [← HL.out] at this
          simpa [List.set_set] using this
    · have t1 : decide (j < nn) = false := decide_eq_false hb
      have hend : freezeAt gk a j q = (a, q) := by
        have : gk = 0 := by omega
        rw [this]; rfl
      have HF := Aside0.mk (hend.symm.trans HE.out)
      clear hend HE
      have htop : wr.cell? ⟨g, 195, none⟩ = some (.int .i64 (tt : Int)) := by have := HC.out.top; rw [← HTT.out]; exact this
      go_upto_region 8 with (fail)
      by_cases h1 : tt < nn
      · have t2 : decide (tt < nn) = true := decide_eq_true h1
        have b1 : tt < 65 := by omega
        have hc2 := HC.out.cold tt b1
        obtain ⟨l, hl⟩ : ∃ l, l = a.getD tt z47 := ⟨_, rfl⟩
        simp only [← hl] at hc2
        have HL := Aside0.mk hl
        clear hl
        go_quiet (fail)
        go_wp2
        go_region
        go_end0
        have e := (((HC.out.drewN nq).drew).putCold tt b1 (wrap64 (l.f2 + q)))
        have k := ((HK.out.trans (KeepG.drewN _ _ nq)).trans (KeepG.drew _ _)).trans (KeepG.set g _ (tt * 3 + 2) (.int .i64 (wrap64 (l.f2 + q))))
        refine ⟨rfl, ?_, k⟩
        simp only [C.freeze, HNN.out, HTT.out, if_pos h1, ← HF.out, ← HL.out]
        rw [HNN.out, HTT.out] at e
        simp only [← HL.out] at e
        exact e
      · have t2 : decide (tt < nn) = false := decide_eq_false h1
        go_quiet (fail)
        go_wp2
        go_end0
        refine ⟨rfl, ?_, HK.out.trans (KeepG.drewN _ _ _)⟩
        simp only [C.freeze, HNN.out, HTT.out, if_neg h1, ← HF.out]
        have := HC.out.drewN nq
        rw [HNN.out, HTT.out] at this
        exact this
end Go.Proofs.YtpldcikmlpegpaaGreatDoor.Col
end
section
namespace Go.Proofs.YtpldcikmlpegpaaGreatDoor.Col
open Go.RowKit Go.Proofs.YtpldcikmlpegpaaGreatDoor.PB Go.Proofs.YtpldcikmlpegpaaGreatDoorW.PrintWords Go.Proofs.YtpldcikmlpegpaaGreatDoorW.PrintLast Go.Proofs.YtpldcikmlpegpaaGreatDoorW.PrintMore
attribute [local go_sem] max2_int min2_int max_two min_two
def C.snow (c : C) (m cold : Int) : C := { c with at_ := c.at_.set (c.top - 1) ⟨m, 0, cold⟩, top := c.top - 1 }
def C.rain (c : C) (m : Int) : C :=
  { c with at_ := (flowAt (c.n - c.top) c.at_ c.top m).1, out := wrap64 (c.out + (flowAt (c.n - c.top) c.at_ c.top m).2) }
def C.step (c : C) (k m cold : Int) : C :=
  if k = 1 then (if 0 < m then c.snow m cold else c) else if k = 2 then c.rain m else if k = 3 then C.times C.melt m.toNat c
  else if k = 4 then c.freeze m else if k = 5 ∨ k = 6 then C.times C.vanish m.toNat c else c
theorem Is.putLayers {w : World} {g : Nat} {c : C} (h : Is w g c) (i : Nat) (hi : i < 65) (x y z : Int) :
    Is (((w.setCell ⟨g, i * 3, none⟩ (.int .i64 x)).setCell ⟨g, i * 3 + 1, none⟩ (.int .i64 y)).setCell ⟨g, i * 3 + 2, none⟩ (.int .i64 z)) g { c with at_ := c.at_.set i ⟨x, y, z⟩ } := by
  have hla : i < c.at_.length := by rw [h.1]; exact hi
  have := ((h.putIce i hi x).putWet i hi y).putCold i hi z
  simpa [List.set_set, List.getD_eq_getElem?_getD, hla] using this
section
variable (w : World) (g : Nat) (c : C) (m cold : Int)
set_option maxRecDepth 100000 in
set_option maxHeartbeats 1000000 in
theorem do_snow (h : Is w g c) (hn65 : c.n ≤ 65) (h1 : 1 ≤ c.top) (ht : c.top ≤ c.n) :
    Calls Tryz.prog 38 #[.pointer (some ⟨g, 0, none⟩), .agg #[.int .i64 1, .int .i64 m, .int .i64 cold]] w fun e w' => e = .returned (.tuple #[]) ∧ Is w' g (if 0 < m then c.snow m cold else c) ∧ KeepG g w w' := by
  have hu26 := Tryz.underlying23
  have hu48 := Tryz.underlying47
  have HI := Aside0.mk h
  have HT := Aside0.mk ht
  have HN := Aside0.mk hn65
  have H1 := Aside0.mk h1
  obtain ⟨tt, htt⟩ : ∃ tt, c.top = tt + 1 := ⟨c.top - 1, by omega⟩
  have b65 : tt < 65 := by omega
  have htop := HI.out.top
  rw [htt] at htop
  rw [show (((tt + 1 : Nat)) : Int) = (tt : Int) + 1 by omega] at htop
  have hf := HI.out.free
  have HTT := Aside0.mk htt
  have HLT := HI.out.lt
  clear h hn65 h1 ht htt
  by_cases hm : 0 < m
  · have z0 : decide (0 < m) = true := decide_eq_true hm
    rw [if_pos hm]
    clear hm
    go_enter Tryz.func38, Tryz.ntmps38
    go_upto_region 5 with (fail)
    obtain ⟨b, hb⟩ : ∃ b, w.heap.size = b := ⟨_, rfl⟩
    obtain ⟨W2, hW2⟩ : ∃ W2, (w.setCell ⟨g, 195, none⟩ (.int .i64 (tt : Int))).alloc (.cells #[.int .i64 1, .int .i64 m, .int .i64 cold] 23 (0, 0)) = W2 := ⟨_, rfl⟩
    rw [hb, hW2]
    have HI2 : Aside0 (Is W2 g { c with top := tt }) := ⟨by rw [← hW2]; exact (HI.out.putTop tt).alloc _⟩
    have HK2 : Aside0 (KeepG g w W2) := ⟨by rw [← hW2]; exact (KeepG.set _ _ _ _).trans (KeepG.of_below ((Below.refl _ _).alloc (Nat.le_refl _) _))⟩
    have hbx : W2.heap[b]? = some (.cells #[.int .i64 1, .int .i64 m, .int .i64 cold] 23 (0, 0)) := by rw [← hW2, ← hb, ← World.size_setCell w ⟨g, 195, none⟩ (.int .i64 (tt : Int))]; exact blk_new _ _
    have hm : W2.cell? ⟨b, 1, none⟩ = some (.int .i64 m) := (blk_cell hbx 1).trans rfl
    have hc : W2.cell? ⟨b, 2, none⟩ = some (.int .i64 cold) := (blk_cell hbx 2).trans rfl
    have HNE : b ≠ g := by omega
    clear hW2 hb hbx htop hf HLT
    have htop : W2.cell? ⟨g, 195, none⟩ = some (.int .i64 (tt : Int)) := HI2.out.top
    have hf := HI2.out.free
    have hc0 := HI2.out.ice tt b65
    have hc1 := HI2.out.wet tt b65
    have hc2 := HI2.out.cold tt b65
    obtain ⟨x0, h0⟩ : ∃ x0, ({ c with top := tt } : C).at_.getD tt z47 = x0 := ⟨_, rfl⟩
    rw [h0] at hc0 hc1 hc2
    clear h0
    go_region
    go_end0
    have e := (HI2.out.putLayers tt b65 m 0 cold).drew
    have et : c.top - 1 = tt := by rw [HTT.out]; rfl
    refine ⟨rfl, ?_, (((HK2.out.trans (KeepG.set _ _ _ _)).trans (KeepG.set _ _ _ _)).trans (KeepG.set _ _ _ _)).trans (KeepG.drew _ _)⟩
    unfold C.snow
    rw [et]
    exact e
  · have z0 : decide (0 < m) = false := decide_eq_false hm
    rw [if_neg hm]
    clear hm
    go_enter Tryz.func38, Tryz.ntmps38
    go_wp2
    go_end0
    exact ⟨rfl, HI.out.alloc _, KeepG.of_below ((Below.refl _ _).alloc (Nat.le_refl _) _)⟩
set_option maxRecDepth 100000 in
set_option maxHeartbeats 1000000 in
theorem do_melt (h : Is w g c) (hn65 : c.n ≤ 65) (ht : c.top ≤ c.n) (hm : m ≤ 9223372036854775807) :
    Calls Tryz.prog 38 #[.pointer (some ⟨g, 0, none⟩), .agg #[.int .i64 3, .int .i64 m, .int .i64 cold]] w fun e w' => e = .returned (.tuple #[]) ∧ Is w' g (C.times C.melt m.toNat c) ∧ KeepG g w w' := by
  have hu26 := Tryz.underlying23
  have HI := Aside0.mk h
  have HT := Aside0.mk ht
  have HN := Aside0.mk hn65
  clear h hn65 ht
  have HIa := Aside0.mk (HI.out.alloc (.cells #[.int .i64 3, .int .i64 m, .int .i64 cold] 23 (0, 0)))
  have HKa := Aside0.mk (KeepG.of_below (g := g) ((Below.refl w.heap.size w).alloc (Nat.le_refl _) (.cells #[.int .i64 3, .int .i64 m, .int .i64 cold] 23 (0, 0))))
  go_enter Tryz.func38, Tryz.ntmps38
  go_wp2_with (first | (go_at_call 60; refine (times_melt _ g c m HIa.out HN.out HT.out hm).mono ?_; rintro e w4 ⟨rfl, hI4, hK4⟩; have HI4 := Aside0.mk hI4; have HK4 := Aside0.mk hK4; clear hI4 hK4))
  go_end0
  exact ⟨rfl, HI4.out, HKa.out.trans HK4.out⟩
set_option maxRecDepth 100000 in
set_option maxHeartbeats 1000000 in
theorem do_freeze (h : Is w g c) (hn65 : c.n ≤ 65) (ht : c.top ≤ c.n) :
    Calls Tryz.prog 38 #[.pointer (some ⟨g, 0, none⟩), .agg #[.int .i64 4, .int .i64 m, .int .i64 cold]] w fun e w' => e = .returned (.tuple #[]) ∧ Is w' g (c.freeze m) ∧ KeepG g w w' := by
  have hu26 := Tryz.underlying23
  have HI := Aside0.mk h
  have HT := Aside0.mk ht
  have HN := Aside0.mk hn65
  clear h hn65 ht
  have HIa := Aside0.mk (HI.out.alloc (.cells #[.int .i64 4, .int .i64 m, .int .i64 cold] 23 (0, 0)))
  have HKa := Aside0.mk (KeepG.of_below (g := g) ((Below.refl w.heap.size w).alloc (Nat.le_refl _) (.cells #[.int .i64 4, .int .i64 m, .int .i64 cold] 23 (0, 0))))
  go_enter Tryz.func38, Tryz.ntmps38
  go_wp2_with (first | (go_at_call 62; refine (freeze_calls _ g c m HIa.out HN.out HT.out).mono ?_; rintro e w4 ⟨rfl, hI4, hK4⟩; have HI4 := Aside0.mk hI4; have HK4 := Aside0.mk hK4; clear hI4 hK4))
  go_end0
  exact ⟨rfl, HI4.out, HKa.out.trans HK4.out⟩
set_option maxRecDepth 100000 in
set_option maxHeartbeats 1000000 in
theorem do_loss (h : Is w g c) (hn65 : c.n ≤ 65) (ht : c.top ≤ c.n) (hm : m ≤ 9223372036854775807) :
    Calls Tryz.prog 38 #[.pointer (some ⟨g, 0, none⟩), .agg #[.int .i64 5, .int .i64 m, .int .i64 cold]] w fun e w' => e = .returned (.tuple #[]) ∧ Is w' g (C.times C.vanish m.toNat c) ∧ KeepG g w w' := by
  have hu26 := Tryz.underlying23
  have HI := Aside0.mk h
  have HT := Aside0.mk ht
  have HN := Aside0.mk hn65
  clear h hn65 ht
  have HIa := Aside0.mk (HI.out.alloc (.cells #[.int .i64 5, .int .i64 m, .int .i64 cold] 23 (0, 0)))
  have HKa := Aside0.mk (KeepG.of_below (g := g) ((Below.refl w.heap.size w).alloc (Nat.le_refl _) (.cells #[.int .i64 5, .int .i64 m, .int .i64 cold] 23 (0, 0))))
  go_enter Tryz.func38, Tryz.ntmps38
  go_wp2_with (first | (go_at_call 60; refine (times_vanish _ g c m HIa.out HN.out HT.out hm).mono ?_; rintro e w4 ⟨rfl, hI4, hK4⟩; have HI4 := Aside0.mk hI4; have HK4 := Aside0.mk hK4; clear hI4 hK4))
  go_end0
  exact ⟨rfl, HI4.out, HKa.out.trans HK4.out⟩
set_option maxRecDepth 100000 in
set_option maxHeartbeats 1000000 in
theorem do_blown (h : Is w g c) (hn65 : c.n ≤ 65) (ht : c.top ≤ c.n) (hm : m ≤ 9223372036854775807) :
    Calls Tryz.prog 38 #[.pointer (some ⟨g, 0, none⟩), .agg #[.int .i64 6, .int .i64 m, .int .i64 cold]] w fun e w' => e = .returned (.tuple #[]) ∧ Is w' g (C.times C.vanish m.toNat c) ∧ KeepG g w w' := by
  have hu26 := Tryz.underlying23
  have HI := Aside0.mk h
  have HT := Aside0.mk ht
  have HN := Aside0.mk hn65
  clear h hn65 ht
  have HIa := Aside0.mk (HI.out.alloc (.cells #[.int .i64 6, .int .i64 m, .int .i64 cold] 23 (0, 0)))
  have HKa := Aside0.mk (KeepG.of_below (g := g) ((Below.refl w.heap.size w).alloc (Nat.le_refl _) (.cells #[.int .i64 6, .int .i64 m, .int .i64 cold] 23 (0, 0))))
  go_enter Tryz.func38, Tryz.ntmps38
  go_wp2_with (first | (go_at_call 60; refine (times_vanish _ g c m HIa.out HN.out HT.out hm).mono ?_; rintro e w4 ⟨rfl, hI4, hK4⟩; have HI4 := Aside0.mk hI4; have HK4 := Aside0.mk hK4; clear hI4 hK4))
  go_end0
  exact ⟨rfl, HI4.out, HKa.out.trans HK4.out⟩
set_option maxRecDepth 100000 in
set_option maxHeartbeats 1000000 in
theorem do_rain (h : Is w g c) (hn65 : c.n ≤ 65) (ht : c.top ≤ c.n) :
    Calls Tryz.prog 38 #[.pointer (some ⟨g, 0, none⟩), .agg #[.int .i64 2, .int .i64 m, .int .i64 cold]] w fun e w' => e = .returned (.tuple #[]) ∧ Is w' g (c.rain m) ∧ KeepG g w w' := by
  have hu26 := Tryz.underlying23
  have HI := Aside0.mk h
  have HT := Aside0.mk ht
  have HN := Aside0.mk hn65
  clear h hn65 ht
  have HIa := Aside0.mk (HI.out.alloc (.cells #[.int .i64 2, .int .i64 m, .int .i64 cold] 23 (0, 0)))
  have HKa := Aside0.mk (KeepG.of_below (g := g) ((Below.refl w.heap.size w).alloc (Nat.le_refl _) (.cells #[.int .i64 2, .int .i64 m, .int .i64 cold] 23 (0, 0))))
  have htop := HI.out.top
  go_enter Tryz.func38, Tryz.ntmps38
  go_upto_region 7 with (fail)
  have hbx := blk_new w (.cells #[.int .i64 2, .int .i64 m, .int .i64 cold] 23 (0, 0))
  obtain ⟨b, hb⟩ : ∃ b, w.heap.size = b := ⟨_, rfl⟩
  obtain ⟨W2, hW2⟩ : ∃ W2, w.alloc (.cells #[.int .i64 2, .int .i64 m, .int .i64 cold] 23 (0, 0)) = W2 := ⟨_, rfl⟩
  rw [hW2] at HIa HKa hbx ⊢
  rw [hb] at hbx ⊢
  have hm : W2.cell? ⟨b, 1, none⟩ = some (.int .i64 m) := (blk_cell hbx 1).trans rfl
  clear hW2 hb hbx htop
  have htop := HIa.out.top
  go_region_with (go_at_call 59; refine (flow_calls' _ g c _ c.top m rfl HIa.out.drew HN.out HT.out).mono ?_; rintro e w4 ⟨rfl, hI4, hK4⟩; have HI4 := Aside0.mk hI4; have HK4 := Aside0.mk hK4; clear hI4 hK4)
  all_goals (go_end0; exact ⟨rfl, HI4.out, (HKa.out.trans (KeepG.drew _ _)).trans HK4.out⟩)
end
end Go.Proofs.YtpldcikmlpegpaaGreatDoor.Col
end
section
namespace Go.Proofs.YtpldcikmlpegpaaGreatDoor.Col
open Go.RowKit Go.Proofs.YtpldcikmlpegpaaGreatDoor.PB Go.Proofs.YtpldcikmlpegpaaGreatDoorW.PrintWords Go.Proofs.YtpldcikmlpegpaaGreatDoorW.PrintLast Go.Proofs.YtpldcikmlpegpaaGreatDoorW.PrintMore
theorem run_copy_wide {P : Program} (w : World) (dT sT ty elem : TypeId) (g o dLen dCap : Nat) (a : Addr) (sLen sCap : Nat) (cur : Array Value) (t : TypeId) (cs : List Value) (sz : Nat)
    (hu : P.underlying dT = some (.slice elem)) (hs : (P.info? elem).map (·.size) = some sz)
    (hg : w.heap[g]? = some (.cells cur t (0, 0))) (hn : cs.length = Nat.min sLen dLen * sz)
    (hsrc : ∀ j v, cs[j]? = some v → w.cell? (a.add j) = some v) (hfit : o + cs.length ≤ cur.size) (h1 : ∀ v ∈ cs, v.oneCell' = true) :
    (Builtin.copy_ #[dT, sT] ty #[.slice (some ⟨g, o, none⟩) dLen dCap, .slice (some a) sLen sCap]).run P w =
      .ok (goInt (Nat.min sLen dLen)) (w.setRow g (cur.toList.take o ++ cs ++ cur.toList.drop (o + cs.length)).toArray) := by
  have hl := run_loadCells_list (P := P) w a cs hsrc
  have hst := run_storeCells_at P g o t cs 0 cur w hg (by simpa using hfit) h1
  cases hq : P.info? elem with
  | none => simp [hq] at hs
  | some i =>
    have hi : i.size = sz := by simpa [hq] using hs
    simp [Builtin.copy_, run_underlying hu, Builtin.lenOf, Builtin.firstCells, sizeOf, typeInfo, hq, hi, ← hn, hl, hst]
theorem run_copy_zero {P : Program} (w : World) (dT sT ty elem : TypeId) (d a : Option Addr) (dLen dCap sLen sCap sz : Nat) (hu : P.underlying dT = some (.slice elem)) (hs : (P.info? elem).map (·.size) = some sz) (hn : Nat.min sLen dLen = 0) :
    (Builtin.copy_ #[dT, sT] ty #[.slice d dLen dCap, .slice a sLen sCap]).run P w = .ok (goInt 0) w := by
  cases hq : P.info? elem with
  | none => simp [hq] at hs
  | some i =>
    have hl : ∀ (x : Addr), (loadCells x 0).run P w = .ok #[] w := fun x => by simpa using run_loadCells_list (P := P) w x [] (by simp)
    cases d <;> cases a <;> simp [Builtin.copy_, run_underlying hu, Builtin.lenOf, Builtin.firstCells, sizeOf, typeInfo, hq, hn, storeCells, hl]
theorem KeepG.setRow (g : Nat) (w : World) (cs : Array Value) : KeepG g w (w.setRow g cs) :=
  ⟨rfl, rfl, rfl, by simp [World.setRow], fun k _ hk => setRow_other w g k cs hk⟩
theorem step_copy_wide {P : Program} {ops : Array Oper} {o : Oper} {a : Act} {w : World} {K : Act → World → Prop} {Q : Exit → Act → World → Prop} {E : Prop} (hgd : o.guard = none) (d s : Operand) (dT sT : TypeId)
    (ho : o.op = .call { callee := .builtin .copy, args := #[d, s], argTypes := #[dT, sT] }) (elem : TypeId) (hu : P.underlying dT = some (.slice elem)) (sz : Nat) (hsz : (P.info? elem).map (·.size) = some sz)
    (dp sp : Option Addr) (dLen dCap sLen sCap : Nat) (hd : a.eval d = .slice dp dLen dCap) (hs : a.eval s = .slice sp sLen sCap) (n : Nat) (hm : Nat.min sLen dLen = n)
    (g off : Nat) (cur : List Value) (t : TypeId) (hg : w.heap[g]? = some (.cells cur.toArray t (0, 0))) (cs : List Value) (hn : cs.length = n * sz)
    (hpos : 0 < n → dp = some ⟨g, off, none⟩ ∧ ∃ ad, sp = some ad ∧ ∀ j v, cs[j]? = some v → w.cell? (ad.add j) = some v)
    (hfit : off + cs.length ≤ cur.length) (h1 : ∀ v ∈ cs, v.oneCell' = true)
    (h : ∀ w', Hid (w'.heap[g]? = some (.cells (splice cur off cs).toArray t (0, 0))) → KeepG g w w' → K (a.put o.dst (goInt n)) w') :
    if Region.wanted o (yielded ops a.tmps) = true then Oper.wp P o a w K Q else E := by
  have hw : Region.wanted o (yielded ops a.tmps) = true := by simp [Region.wanted, hgd]
  rw [if_pos hw]
  subst hm
  by_cases h0 : Nat.min sLen dLen = 0
  · obtain rfl : cs = [] := List.eq_nil_of_length_eq_zero (by rw [hn, h0, Nat.zero_mul])
    have hrun := run_copy_zero (P := P) w dT sT o.type elem dp sp dLen dCap sLen sCap sz hu hsz h0
    unfold Oper.wp
    simp [execOp, ho, resolve, invoke, builtin, hd, hs, hrun, Result.andThen]
    rw [h0] at h
    exact h w (show _ = _ by simpa [splice] using hg) (KeepG.refl _ _)
  · obtain ⟨rfl, ad, rfl, hsrc⟩ := hpos (by omega)
    have hrun := run_copy_wide (P := P) w dT sT o.type elem g off dLen dCap ad sLen sCap cur.toArray t cs sz hu hsz hg hn hsrc (by simpa using hfit) h1
    unfold Oper.wp
    simp [execOp, ho, resolve, invoke, builtin, hd, hs, hrun, Result.andThen]
    exact h _ (show _ = _ by simpa [splice] using setRow_heap w g _ _ t _ hg) (KeepG.setRow _ _ _)
end Go.Proofs.YtpldcikmlpegpaaGreatDoor.Col
end
section
namespace Go.Proofs.YtpldcikmlpegpaaGreatDoor.Col
open Go.RowKit Go.Proofs.YtpldcikmlpegpaaGreatDoor.PB Go.Proofs.YtpldcikmlpegpaaGreatDoorW.PrintWords Go.Proofs.YtpldcikmlpegpaaGreatDoorW.PrintLast Go.Proofs.YtpldcikmlpegpaaGreatDoorW.PrintMore
attribute [local go_sem] max2_int min2_int max_two min_two
def C.of (l : List S47) : C := { at_ := z47 :: l ++ List.replicate (64 - l.length) z47, top := 1, n := l.length + 1, out := 0, taken := 0 }
def C.zero (n : Nat) : C := { at_ := List.replicate 65 z47, top := 1, n := n, out := 0, taken := 0 }
set_option maxRecDepth 100000 in
theorem zero_cells (n : Nat) : (Tryz.zeroCells72.setIfInBounds 195 (.int .i64 1)).setIfInBounds 196 (.int .i64 (n : Int)) = (cells (C.zero n)).toArray := by
  have e : Tryz.zeroCells72 = (cells { at_ := List.replicate 65 z47, top := 0, n := 0, out := 0, taken := 0 }).toArray := by kernel_rfl
  rw [e]
  rfl
theorem of_cells (l : List S47) (h : l.length ≤ 64) : splice (cells (C.zero (l.length + 1))) 3 (l.flatMap lcells) = cells (C.of l) := by
  have e1 : (cells (C.zero (l.length + 1))).take 3 = lcells z47 := rfl
  have e2 : (cells (C.zero (l.length + 1))).drop (3 + (l.flatMap lcells).length) = (List.replicate (64 - l.length) z47).flatMap lcells ++ [.int .i64 ((1 : Nat) : Int), .int .i64 ((l.length + 1 : Nat) : Int), .int .i64 0, .int .i64 0] := by
    unfold cells C.zero
    have e3 : List.replicate 65 z47 = List.replicate (1 + l.length) z47 ++ List.replicate (64 - l.length) z47 := by
      rw [List.replicate_append_replicate]; congr 1; omega
    rw [e3, List.flatMap_append, List.append_assoc]
    have e4 : 3 + (l.flatMap lcells).length = ((List.replicate (1 + l.length) z47).flatMap lcells).length := by
      rw [flat_len, flat_len, List.length_replicate]; omega
    rw [e4, List.drop_left]
  unfold splice
  rw [e1, e2]
  unfold cells C.of
  simp [List.flatMap_append, List.append_assoc]
theorem info47s : (Tryz.prog.info? 47).map (·.size) = some 3 := by kernel_rfl
theorem flat_one (l : List S47) : ∀ v ∈ l.flatMap lcells, v.oneCell' = true := by
  intro v hv
  obtain ⟨x, _, hx⟩ := List.mem_flatMap.mp hv
  simp [lcells] at hx
  rcases hx with rfl | rfl | rfl <;> rfl
theorem row_cells {w : World} {A : Option Addr} {l : List S47} (hr : Kd.C k47 w A l.length l) (h0 : 0 < l.length) : ∃ ad, A = some ad ∧ ∀ j v, (l.flatMap lcells)[j]? = some v → w.cell? (ad.add j) = some v := by
  obtain ⟨ad, e, hc⟩ := hr.2.2 h0
  refine ⟨ad, e, fun j v hv => ?_⟩
  have hj : j < l.length * 3 := by have := (List.getElem?_eq_some_iff.1 hv).1; rwa [flat_len] at this
  have hi : j / 3 < l.length := by omega
  have ej : j = j / 3 * 3 + j % 3 := by omega
  rw [ej, flat_get l _ _ hi (by omega)] at hv
  obtain ⟨c, hlen, hk, hcell⟩ := hc (j / 3) (l.getD (j / 3) z47) (by simp [List.getD_eq_getElem?_getD, hi])
  have e2 := k47_open hk
  rw [ej]
  exact hcell (j % 3) v (by rw [e2]; exact hv)
set_option maxRecDepth 100000 in
set_option maxHeartbeats 1000000 in
theorem of_calls (A : Option Addr) (cap : Nat) (l : List S47) (w : World) (hr : Kd.C k47 w A l.length l) (hl : l.length ≤ 64) :
    Calls Tryz.prog 37 #[.agg #[.slice A l.length cap]] w fun e w' => ∃ g, e = .returned (.pointer (some ⟨g, 0, none⟩)) ∧ Is w' g (C.of l) ∧ w.heap.size ≤ g ∧ Below w.heap.size w w' := by
  have hu24 := Tryz.underlying26
  have hu48 := Tryz.underlying47
  have HR := Aside0.mk hr
  clear hr
  go_enter Tryz.func37, Tryz.ntmps37
  go_wp2
  obtain ⟨W1, hW1⟩ : ∃ W1, w.alloc (.cells #[.slice A l.length cap] 26 (0, 0)) = W1 := ⟨_, rfl⟩
  obtain ⟨g, hg⟩ : ∃ g, w.heap.size + 1 = g := ⟨_, rfl⟩
  have hs1 : W1.heap.size = g := by rw [← hW1, ← hg]; simp
  obtain ⟨W0, hW0⟩ : ∃ W0, W1.alloc (.cells (cells (C.zero (l.length + 1))).toArray 72 (0, 0)) = W0 := ⟨_, rfl⟩
  have ez := zero_cells (l.length + 1)
  rw [show (((l.length + 1 : Nat) : Int)) = (l.length : Int) + 1 by omega] at ez
  rw [ez, hW1, hg, hW0]
  have hB1 : Below w.heap.size w W1 := by rw [← hW1]; exact (Below.refl _ _).alloc (Nat.le_refl _) _
  have hB0 : Below w.heap.size w W0 := by rw [← hW0]; exact hB1.alloc (by omega) _
  have hbox : W0.heap[g]? = some (.cells (cells (C.zero (l.length + 1))).toArray 72 (0, 0)) := by rw [← hW0, ← hs1]; exact blk_new _ _
  have hp0 : W0.heap[w.heap.size]? = some (.cells #[.slice A l.length cap] 26 (0, 0)) := by rw [← hW0]; refine blk_alloc ?_ _; rw [← hW1]; exact blk_new _ _
  have hpc : W0.cell? ⟨w.heap.size, 0, none⟩ = some (.slice A l.length cap) := (blk_cell hp0 0).trans rfl
  have HBX := Aside0.mk hbox
  have HB0 := Aside0.mk hB0
  have HG : Aside0 (w.heap.size ≤ g) := ⟨by omega⟩
  have HR0 : Aside0 (Kd.C k47 W0 A l.length l) := ⟨Kd.C_below HR.out hB0⟩
  have HL := Aside0.mk hl
  clear ez hW1 hs1 hW0 hB1 hB0 hbox hp0 hg hl
  have hm : Aside0 (Nat.min l.length 64 = l.length) := ⟨Nat.min_eq_left HL.out⟩
  have hpos : Aside0 (0 < l.length → some (⟨g, 3, none⟩ : Addr) = some ⟨g, 3, none⟩ ∧ ∃ ad, A = some ad ∧ ∀ j v, (l.flatMap lcells)[j]? = some v → W0.drew.cell? (ad.add j) = some v) := ⟨fun h => ⟨rfl, row_cells HR0.out h⟩⟩
  have hfit : Aside0 (3 + (l.flatMap lcells).length ≤ (cells (C.zero (l.length + 1))).length) := ⟨by
    have := HL.out
    unfold cells C.zero
    rw [List.length_append, flat_len, flat_len, List.length_replicate]
    simp only [List.length_cons, List.length_nil]
    omega⟩
  go_region_law (refine step_copy_wide rfl (.tmp 13) (.tmp 15) 24 24 rfl 47 Tryz.underlying24 3 info47s (some ⟨g, 3, none⟩) A 64 64 l.length cap rfl rfl l.length hm.out g 3 (cells (C.zero (l.length + 1))) 72 HBX.out (l.flatMap lcells) (flat_len l) hpos.out hfit.out (flat_one l) ?_; intro w5 h5 k5)
  all_goals (have H5 := Aside0.mk h5.out; have K5 := Aside0.mk k5; clear h5 k5; go_wp2; go_ret)
  all_goals exact ⟨g, rfl, ⟨by have := HL.out; simp [C.of]; omega, by rw [← of_cells l HL.out]; exact H5.out⟩, HG.out, ((KeepG.drew g W0).trans K5.out).below HB0.out HG.out HB0.out.size⟩
end Go.Proofs.YtpldcikmlpegpaaGreatDoor.Col
end
section
namespace Go.Proofs.YtpldcikmlpegpaaGreatDoor.Col
open Go.RowKit Go.Proofs.YtpldcikmlpegpaaGreatDoor.PB Go.Proofs.YtpldcikmlpegpaaGreatDoorW.PrintWords Go.Proofs.YtpldcikmlpegpaaGreatDoorW.PrintLast Go.Proofs.YtpldcikmlpegpaaGreatDoorW.PrintMore
attribute [local go_sem] max2_int min2_int max_two min_two
def C.live (c : C) : List S47 := (c.at_.drop c.top).take (c.n - c.top)
theorem live_len {w : World} {g : Nat} {c : C} (h : Is w g c) (hn : c.n ≤ 65) : c.live.length = c.n - c.top := by
  unfold C.live
  have := h.1
  simp
  omega
theorem live_read {w : World} {g : Nat} {c : C} (h : Is w g c) (hn : c.n ≤ 65) (ht : c.top < c.n) : Kd.C k47 w (some ⟨g, c.top * 3, none⟩) c.live.length c.live := by
  have hl := live_len h hn
  refine ⟨rfl, by omega, fun _ => ⟨_, rfl, fun j p hp => ?_⟩⟩
  have hj : j < c.n - c.top := by have := (List.getElem?_eq_some_iff.1 hp).1; omega
  refine ⟨lcells p, rfl, k47_mk w p, fun i u hu => ?_⟩
  have hi : i < 3 := (List.getElem?_eq_some_iff.1 hu).1
  have e : ((⟨g, c.top * 3, none⟩ : Addr).add (j * 3 + i)) = ⟨g, (c.top + j) * 3 + i, none⟩ := by
    have e0 : (c.top + j) * 3 + i = c.top * 3 + (j * 3 + i) := by omega
    rw [e0]
    generalize j * 3 + i = q
    unfold Addr.add
    split <;> simp_all
  rw [show k47.sz = 3 from rfl, e, h.layer (c.top + j) i (by omega) hi]
  have ep : c.at_.getD (c.top + j) z47 = p := by
    unfold C.live at hp
    rw [List.getElem?_take_of_lt hj, List.getElem?_drop] at hp
    rw [List.getD_eq_getElem?_getD, hp]
    rfl
  rw [ep, hu]
theorem read_empty {w : World} {A : Option Addr} {l : List S47} (h : l.length = 0) : Kd.C k47 w A l.length l := ⟨rfl, by omega, fun h2 => by omega⟩
set_option maxRecDepth 100000 in
set_option maxHeartbeats 1000000 in
theorem layers_calls (w : World) (g : Nat) (c : C) (h : Is w g c) (hn65 : c.n ≤ 65) (ht : c.top ≤ c.n) :
    Calls Tryz.prog 64 #[.pointer (some ⟨g, 0, none⟩)] w fun e w' => ∃ A cap, e = .returned (.slice A c.live.length cap) ∧ c.live.length ≤ cap ∧ Kd.C k47 w' A c.live.length c.live ∧ ∃ n, w' = w.drewN n := by
  have HI := Aside0.mk h
  have HT := Aside0.mk ht
  have HN := Aside0.mk hn65
  have HLL := Aside0.mk (live_len h hn65)
  obtain ⟨nn, hnn⟩ : ∃ nn, c.n = nn := ⟨_, rfl⟩
  obtain ⟨tt, htt⟩ : ∃ tt, c.top = tt := ⟨_, rfl⟩
  have htop := HI.out.top
  have hcn := HI.out.n
  rw [htt] at htop
  rw [hnn] at hcn
  have b65 : nn ≤ 65 := by omega
  have btt : tt ≤ nn := by omega
  have HNN := Aside0.mk hnn
  have HTT := Aside0.mk htt
  clear h hnn htt hn65 ht
  have i0 : (0 : Int) ≤ (tt : Int) := by omega
  have i1 : (tt : Int) ≤ (nn : Int) := by omega
  have i2 : (nn : Int) ≤ 65 := by omega
  go_enter Tryz.func64, Tryz.ntmps64
  go_wp2
  have eL : Aside0 (nn - tt = c.live.length) := ⟨by rw [HLL.out, HNN.out, HTT.out]⟩
  have hR : Aside0 (∀ n, tt < nn → Kd.C k47 (w.drewN n) (some ⟨g, tt * 3, none⟩) c.live.length c.live) := ⟨fun n hlt => by
    have := live_read (HI.out.drewN n) HN.out (by rw [HNN.out, HTT.out]; exact hlt)
    rw [HTT.out] at this
    exact this⟩
  by_cases h65 : tt < 65
  · go_quiet (fail)
    go_wp2
    go_ret
    refine ⟨some ⟨g, tt * 3, none⟩, 65 - tt, by rw [eL.out]; rfl, by have := eL.out; omega, ?_, nq, rfl⟩
    by_cases hlt : tt < nn
    · exact hR.out nq hlt
    · exact read_empty (by have := eL.out; omega)
  · go_quiet (fail)
    go_wp2
    all_goals go_ret
    all_goals exact ⟨some ⟨g, 0, none⟩, 0, by rw [eL.out]; rfl, by have := eL.out; omega, read_empty (by have := eL.out; omega), nq, rfl⟩
theorem R_set_low {α : Type} {d : Kd α} {e : Nat} {w : World} {base : Nat} {v : Value} {xs : List α} (h : d.R e w base (fun _ => True) v xs) {B i : Nat} (hB : B < base) (u : Value) : d.R e (w.setCell ⟨B, i, none⟩ u) B (fun _ => True) v xs :=
  Kd.R_lower (Kd.R_mono (Kd.R_far (p := ⟨B, i, none⟩) (Kd.R_mono (Kd.R_bound h) (ok' := fun k => base ≤ k) (fun _ h => h.2.1)) (fun k hk => by dsimp only; omega) u) (fun _ _ => trivial)) (by omega)
def limitE (r : Int) : Int := if r = 0 then 0 else 2
def limitL (r : Int) (l : List S47) : List S47 := if r = 0 then l else []
set_option maxRecDepth 100000 in
set_option maxHeartbeats 1000000 in
theorem pack_calls (k : Nat) (r : Int) (w : World) (g : Nat) (c : C) (h : Is w g c) (hn65 : c.n ≤ 65) (ht : c.top ≤ c.n) (hk : pack_Check.f k c.live = some r) :
    Calls Tryz.prog 39 #[.pointer (some ⟨g, 0, none⟩)] w fun e w' => ∃ v, e = .returned (.tuple #[.agg #[v], .int .i64 (limitE r)]) ∧
      Kd.R k47 47 w' w.heap.size (fun _ => True) v (limitL r c.live) ∧ Below w.heap.size w w' := by
  have hu24 := Tryz.underlying26
  have hu48 := Tryz.underlying47
  have HI := Aside0.mk h
  have HT := Aside0.mk ht
  have HN := Aside0.mk hn65
  have HCK := Aside0.mk hk
  have HLL := Aside0.mk (live_len h hn65)
  clear h ht hn65 hk
  go_enter Tryz.func39, Tryz.ntmps39
  go_upto_region 1 with (fail)
  obtain ⟨B, hB⟩ : ∃ B, w.heap.size = B := ⟨_, rfl⟩
  obtain ⟨W1, hW1⟩ : ∃ W1, w.alloc (.cells #[.slice none 0 0] 26 (0, 0)) = W1 := ⟨_, rfl⟩
  have hsz : W1.heap.size = B + 1 := by rw [← hW1, ← hB]; simp
  have HB1 : Aside0 (Below B w W1) := ⟨by rw [← hW1, ← hB]; exact (Below.refl _ _).alloc (Nat.le_refl _) _⟩
  have HRC : Aside0 (W1.heap[B]? = some (.cells #[.slice none 0 0] 26 (0, 0))) := ⟨by rw [← hW1, ← hB]; exact blk_new _ _⟩
  have HI1 : Aside0 (Is W1 g c) := ⟨by rw [← hW1]; exact HI.out.alloc _⟩
  have HSZ := Aside0.mk hsz
  have HBq := Aside0.mk hB
  rw [hW1, hB]
  clear hW1 hB hsz
  go_upto_region 2 with (first | (go_at_call 64; refine (layers_calls _ g c HI1.out HN.out HT.out).mono ?_; rintro e w1 ⟨A1, cap1, rfl, hcap, hread, n1, rfl⟩; have HRD := Aside0.mk hread; clear hread hcap) | (at_builtin; refine Kd.R_append_rows k47 (w0 := W1) W1.heap.size rfl (.const (.slice none 0 0)) (.tmp 6) 24 47 (.agg #[(.int .i64 0), (.int .i64 0), (.int .i64 0)]) 24 rfl Tryz.underlying24 info47 rfl (by decide) (by omega) (.slice none 0 0) [] c.live _ _ _ (fun _ => True) (fun _ => False) rfl rfl (Kd.R_nil _ _ _ _ _) HRD.out (fun _ _ h => h) (fun _ h => h.elim) (fun _ _ => trivial) ?aB (Nat.le_refl _) ?aL ?_; (case aB => apply pw_below_drewN; exact Below.refl _ _); (case aL => have := HLL.out; have := HN.out; simp only [List.length_nil]; omega); intro v1 w5 ho hb hg hat; obtain ⟨A2, c2, rfl⟩ := Kd.R_slice ho; have HO := Aside0.mk ho; have HB5 := Aside0.mk hb; clear ho hb hg hat))
  obtain ⟨p, hp⟩ : ∃ p, w5.heap.size = p := ⟨_, rfl⟩
  obtain ⟨W6, hW6⟩ : ∃ W6, w5.alloc (.cells #[.slice A2 c.live.length c2] 26 (0, 0)) = W6 := ⟨_, rfl⟩
  rw [hW6, hp]
  have HB6 : Aside0 (Below W1.heap.size W1 W6) := ⟨by rw [← hW6]; exact HB5.out.alloc HB5.out.size _⟩
  have HPC : Aside0 (W6.heap[p]? = some (.cells #[.slice A2 c.live.length c2] 26 (0, 0))) := ⟨by rw [← hW6, ← hp]; exact blk_new _ _⟩
  have HO6 : Aside0 (Kd.R k47 47 W6 W1.heap.size (fun _ => True) (.slice A2 c.live.length c2) c.live) := ⟨by rw [← hW6]; exact Kd.R_alloc HO.out _⟩
  have HRC6 : Aside0 (W6.heap[B]? = some (.cells #[.slice none 0 0] 26 (0, 0))) := ⟨blk_below HRC.out HB6.out⟩
  have HRD6 := Aside0.mk (Kd.R_reads' HO6.out)
  have HBt : Aside0 (Below B w W6) := ⟨HB1.out.trans (HB6.out.mono (by have := HSZ.out; omega))⟩
  have HNB : Aside0 (p ≠ B) := ⟨by have := HB5.out.size; have := HSZ.out; omega⟩
  have hpc : W6.cell? ⟨p, 0, none⟩ = some (.slice A2 c.live.length c2) := (blk_cell HPC.out 0).trans rfl
  clear hW6 hp HB5 HO HRD HRC HI1
  go_upto_if 11 with (first | (go_at_call 32; refine (pack_Check.calls k A2 c2 c.live r _ HRD6.out.2.2 HRD6.out.2.1 HCK.out).mono ?_; rintro e w7 ⟨rfl, hb⟩; have HB7 := Aside0.mk hb; have HO7 := Aside0.mk (Kd.R_below HO6.out hb); have HRC7 := Aside0.mk (blk_below HRC6.out hb); have HPC7 := Aside0.mk (blk_below HPC.out hb); clear hb hpc))
  have HBt7 : Aside0 (Below B w w7) := ⟨HBt.out.trans (HB7.out.mono (Nat.le_trans (by rw [← HBq.out]; exact Nat.le_refl _) HBt.out.size))⟩
  have hf7 := blk_frozen HRC7.out 0
  have hc7 : w7.cell? ⟨B, 0, none⟩ = some (.slice none 0 0) := (blk_cell HRC7.out 0).trans rfl
  have hc8 : w7.cell? ⟨p, 0, none⟩ = some (.slice A2 c.live.length c2) := (blk_cell HPC7.out 0).trans rfl
  have hBB : B ≤ B := Nat.le_refl _
  by_cases hr : r = 0
  · have z0 : (r != 0) = false := by simp [hr]
    have HZ := Aside0.mk hr
    clear hr
    go_wp2
    refine bodyPost_ret (results_ct rfl _ _ B 26 #[.slice A2 c.live.length c2] (0, 0) _ rfl (blk_put (cs := #[.slice none 0 0]) HRC7.out 0 _ rfl) Tryz.underlying26 rfl (by kernel_rfl)) rfl ?_
    refine ⟨_, by rw [limitE, if_pos HZ.out]; rfl, ?_, by rw [HBq.out]; exact HBt7.out.setCell hBB _⟩
    rw [limitL, if_pos HZ.out, HBq.out]
    exact R_set_low HO7.out (by have := HSZ.out; omega) _
  · have z0 : (r != 0) = true := by simp [hr]
    have HZ := Aside0.mk hr
    clear hr
    go_wp2
    refine bodyPost_ret (results_ct rfl _ _ B 26 #[.slice none 0 0] (0, 0) _ rfl (blk_put (cs := #[.slice none 0 0]) HRC7.out 0 _ rfl) Tryz.underlying26 rfl (by kernel_rfl)) rfl ?_
    refine ⟨_, by rw [limitE, if_neg HZ.out]; rfl, ?_, by rw [HBq.out]; exact HBt7.out.setCell hBB _⟩
    rw [limitL, if_neg HZ.out]
    exact Kd.R_nil _ _ _ _ _
end Go.Proofs.YtpldcikmlpegpaaGreatDoor.Col
end
section
namespace Go.Proofs.YtpldcikmlpegpaaGreatDoor.Plain
open Go.RowKit Go.Proofs.YtpldcikmlpegpaaGreatDoor.PB Go.Proofs.YtpldcikmlpegpaaGreatDoor.Col Go.Proofs.YtpldcikmlpegpaaGreatDoorW.PrintWords Go.Proofs.YtpldcikmlpegpaaGreatDoorW.PrintMore
def St (c : C) (n : Nat) (L : List Ly) (o t : Int) : Prop :=
  c.n = n ∧ c.out = o ∧ c.taken = t ∧ ∃ pre post, c.at_ = pre ++ L ++ post ∧ pre.length = c.top ∧ c.top + L.length = n
theorem St.live {c : C} {n : Nat} {L : List Ly} {o t : Int} (h : St c n L o t) : c.live = L := by
  obtain ⟨h1, h2, h3, pre, post, h4, h5, h6⟩ := h
  unfold C.live
  rw [h4, ← h5, List.append_assoc, List.drop_left, show c.n - pre.length = L.length by omega, List.take_left]
end Go.Proofs.YtpldcikmlpegpaaGreatDoor.Plain
end
section
namespace Go.Proofs.YtpldcikmlpegpaaGreatDoor.PB
open Go.RowKit Go.Proofs.YtpldcikmlpegpaaGreatDoorW.PrintWords Go.Proofs.YtpldcikmlpegpaaGreatDoorW.PrintLast Go.Proofs.YtpldcikmlpegpaaGreatDoorW.PrintMore
attribute [local go_sem] max2_int min2_int max_two min_two max_three min_three max_four min_four   -- for this text's walks alone
set_option linter.unusedVariables false
set_option linter.unusedSimpArgs false
def pack_CheckStep.j0 : Nat → Int → Int → Int → Int → Option (Int)
  | 0, _, _, _, _ => none
  | k + 1, x3, x116000, x116001, x116002 => (pack_from.f x116000 1 6).bind fun t116 => (if t116 = true then ((pack_from.f x116001 0 65536).bind fun t117 => (if t117 = true then ((pack_from.f x116002 0 x3).bind fun t118 => (if t118 = true then (some 0) else (some 21))) else (some 21))) else (some 21))
def pack_CheckStep.f (k : Nat) (a0_0 : Int) (a0_1 : Int) (a0_2 : Int) : Option (Int) := if a0_0 = 1 then (pack_CheckStep.j0 k 65536 a0_0 a0_1 a0_2) else (pack_CheckStep.j0 k 0 a0_0 a0_1 a0_2)
set_option maxHeartbeats 8000000 in
set_option maxRecDepth 100000 in
theorem pack_CheckStep.calls (k : Nat) (a0_0 : Int) (a0_1 : Int) (a0_2 : Int) (r : Int) (w : World) (h : pack_CheckStep.f k a0_0 a0_1 a0_2 = some r) :
    Calls Tryz.prog 22 #[.agg #[.int .i64 a0_0, .int .i64 a0_1, .int .i64 a0_2]] w fun e w' => e = .returned (.int .i64 r) ∧ Below w.heap.size w w' := by
  have hu23 := Tryz.underlying23
  have HB := Aside0.mk (Below.refl w.heap.size w)
  have H : (if a0_0 = 1 then (pack_CheckStep.j0 k 65536 a0_0 a0_1 a0_2) else (pack_CheckStep.j0 k 0 a0_0 a0_1 a0_2)) = some r := h
  clear h
  have HC2 := Aside0.mk H
  clear H
  go_enter Tryz.func22, Tryz.ntmps22
  go_upto_if 6 with (first | ((with_reducible refine gate_dst (N := 1) rfl ?_); refine box_event ?hg (N := 1) ?hd (cs := #[.int .i64 a0_0, .int .i64 a0_1, .int .i64 a0_2]) (t := 23) ?hr ?_; (case hd => rfl); (case hg => rfl); (case hr => first | (go_simp; done) | (go_simp; rfl)); intro gb115 hg w3 hbox hb; have n0_ := Aside0.mk (below_step (by repeat (first | (with_reducible first | exact HB.out | apply below_alloc | apply pw_below_drewN | apply below_drew1) | exact HB.out)) hb); have n1_ := Aside0.mk (hbox); have n2_ := Aside0.mk ((by rw [hg]; exact (below_size (by repeat (first | (with_reducible first | exact HB.out | apply below_alloc | apply pw_below_drewN | apply below_drew1) | exact HB.out))) : w.heap.size ≤ gb115)); have n3_ := Aside0.mk ((by rw [hg]; exact (below_size (by repeat (first | (with_reducible first | exact HB.out | apply below_alloc | apply pw_below_drewN | apply below_drew1) | exact HB.out))) : w.heap.size ≤ gb115)); clear HB; have HB := n0_; have BK115 := n1_; have GW115 := n2_; have GE115 := n3_; clear n0_ n1_ n2_ n3_; clear hb hbox hg; have hcz4_0 : w3.cell? ⟨gb115, 0, none⟩ = some (.int .i64 a0_0) := (blk_cell BK115.out 0).trans rfl; have hcz4_1 : w3.cell? ⟨gb115, 1, none⟩ = some (.int .i64 a0_1) := (blk_cell BK115.out 1).trans rfl; have hcz4_2 : w3.cell? ⟨gb115, 2, none⟩ = some (.int .i64 a0_2) := (blk_cell BK115.out 2).trans rfl; have hfz4_0 := blk_frozen BK115.out 0; have hfz4_1 := blk_frozen BK115.out 1; have hfz4_2 := blk_frozen BK115.out 2))
  (try simp only [Act.put, List.setIfInBounds_toArray, List.set_cons_zero, List.set_cons_succ])
  go_cut [3] (fun v3 wc => ∃ (kq : Nat) (x3_1 : Int), v3 = .int .i64 x3_1 ∧ Aside0 (pack_CheckStep.j0 kq x3_1 a0_0 a0_1 a0_2 = some r) ∧ Aside0 (kq ≤ k) ∧ Aside0 (wc.heap[gb115]? = some (.cells #[.int .i64 a0_0, .int .i64 a0_1, .int .i64 a0_2] 23 (0, 0))) ∧ Aside0 (Below w.heap.size w wc))
  case first =>
    have H := HC2.out
    clear HC2
    by_cases c5 : a0_0 = 1
    · rw [if_pos c5] at H
      have c5b0 : (a0_0 == 1) = true := beq_iff_eq.mpr c5
      have c5b1 : (a0_0 != 1) = false := bne_eq_false_iff_eq.mpr c5
      clear c5
      (first | rw [c5b0] | (simp only [i64_w, i32_w]; rw [c5b0]) | rw [c5b1] | skip)
      have H' := Aside0.mk H
      clear H
      go_wp2
      go_meet
      case rel => exact ⟨_, (65536), (by first | rfl | (simp; done) | (simp [*]; done)), H', ⟨by first | omega | exact Nat.le_refl _⟩, ⟨by (with_reducible repeat (first | refine blk_drewN ?_ _ | refine blk_drew ?_ | refine blk_alloc ?_ _)); exact BK115.out⟩, ⟨by repeat (first | (with_reducible first | exact HB.out | apply below_alloc | apply pw_below_drewN | apply below_drew1 | refine below_set ?_ GE115.out) | exact HB.out)⟩⟩
    · rw [if_neg c5] at H
      have c5b0 : (a0_0 == 1) = false := beq_eq_false_iff_ne.mpr c5
      have c5b1 : (a0_0 != 1) = true := bne_iff_ne.mpr c5
      (first | rw [c5b0] | (simp only [i64_w, i32_w]; rw [c5b0]) | rw [c5b1] | skip)
      have H' := Aside0.mk H
      clear H
      go_wp2
      go_meet
      case rel => exact ⟨_, (0), (by first | rfl | (simp; done) | (simp [*]; done)), H', ⟨by first | omega | exact Nat.le_refl _⟩, ⟨by (with_reducible repeat (first | refine blk_drewN ?_ _ | refine blk_drew ?_ | refine blk_alloc ?_ _)); exact BK115.out⟩, ⟨by repeat (first | (with_reducible first | exact HB.out | apply below_alloc | apply pw_below_drewN | apply below_drew1 | refine below_set ?_ GE115.out) | exact HB.out)⟩⟩
  case rest =>
    clear HC2
    try clear c2
    try clear p2
    try clear c5
    try clear c5b0
    try clear c5b1
    try clear hcz4_0
    try clear hcz4_1
    try clear hcz4_2
    try clear hfz4_0
    try clear hfz4_1
    try clear hfz4_2
    obtain ⟨kq, x3_1, rfl, HA, HJ1, BK115, HB⟩ := hcut
    cases kq with
    | zero => exact absurd HA.out (by simp [pack_CheckStep.j0])
    | succ kj1 =>
      have H := HA.out
      clear HA
      simp only [pack_CheckStep.j0] at H
      replace H := Option.bind_eq_some_iff.mp H
      obtain ⟨t116, A60, H⟩ := H
      replace H : (if t116 = true then ((pack_from.f a0_1 0 65536).bind fun t117 => (if t117 = true then ((pack_from.f a0_2 0 x3_1).bind fun t118 => (if t118 = true then (some 0) else (some 21))) else (some 21))) else (some 21)) = some r := H
      have A6 := Aside0.mk A60
      clear A60
      by_cases c7 : t116 = true
      · subst c7
        have H1 : ((pack_from.f a0_1 0 65536).bind fun t117 => (if t117 = true then ((pack_from.f a0_2 0 x3_1).bind fun t118 => (if t118 = true then (some 0) else (some 21))) else (some 21))) = some r := by rw [if_pos rfl] at H; exact H
        clear H
        have H := H1
        clear H1
        replace H := Option.bind_eq_some_iff.mp H
        obtain ⟨t117, A80, H⟩ := H
        replace H : (if t117 = true then ((pack_from.f a0_2 0 x3_1).bind fun t118 => (if t118 = true then (some 0) else (some 21))) else (some 21)) = some r := H
        have A8 := Aside0.mk A80
        clear A80
        by_cases c9 : t117 = true
        · subst c9
          have H1 : ((pack_from.f a0_2 0 x3_1).bind fun t118 => (if t118 = true then (some 0) else (some 21))) = some r := by rw [if_pos rfl] at H; exact H
          clear H
          have H := H1
          clear H1
          replace H := Option.bind_eq_some_iff.mp H
          obtain ⟨t118, A100, H⟩ := H
          replace H : (if t118 = true then (some 0) else (some 21)) = some r := H
          have A10 := Aside0.mk A100
          clear A100
          by_cases c11 : t118 = true
          · subst c11
            have H1 : (some 0) = some r := by rw [if_pos rfl] at H; exact H
            clear H
            have H := H1
            clear H1
            obtain rfl := Option.some.inj H
            have hcz12_0 : wc.cell? ⟨gb115, 0, none⟩ = some (.int .i64 a0_0) := (blk_cell BK115.out 0).trans rfl
            have hcz12_1 : wc.cell? ⟨gb115, 1, none⟩ = some (.int .i64 a0_1) := (blk_cell BK115.out 1).trans rfl
            have hcz12_2 : wc.cell? ⟨gb115, 2, none⟩ = some (.int .i64 a0_2) := (blk_cell BK115.out 2).trans rfl
            have hfz12_0 := blk_frozen BK115.out 0
            have hfz12_1 := blk_frozen BK115.out 1
            have hfz12_2 := blk_frozen BK115.out 2
            go_wp2_with (first | ((with_reducible refine gate_callee (f := 44) rfl ?_); refine goesL_ (some 9) rfl rfl Tryz.func44 (by kernel_rfl) rfl #[.int .i64 a0_0, .int .i64 1, .int .i64 6] rfl (by (try simp only [List.map_toArray, List.map_cons, List.map_nil]); first | done | rfl | (simp only [List.length_drop, List.length_take]; rfl)) ?_; (with_reducible refine (pack_from.calls a0_0 1 6 true _ A6.out).mono ?_); rintro e w' ⟨rfl, ⟨nd, rfl⟩⟩; refine ⟨_, rfl, ?_⟩) | (go_at_call 44; (with_reducible refine (pack_from.calls a0_1 0 65536 true _ A8.out).mono ?_); rintro e w' ⟨rfl, ⟨nd, rfl⟩⟩) | (go_at_call 44; (with_reducible refine (pack_from.calls a0_2 0 x3_1 true _ A10.out).mono ?_); rintro e w' ⟨rfl, ⟨nd, rfl⟩⟩))
            go_ret
            exact ⟨by first | rfl | (simp [errW_none, errW_some] <;> rfl) | (simp [*, errW_none, errW_some] <;> rfl), by repeat (first | (with_reducible first | exact HB.out | apply below_alloc | apply pw_below_drewN | apply below_drew1 | refine below_set ?_ GE115.out) | exact HB.out)⟩
          · replace c11 := Bool.eq_false_iff.mpr c11
            subst c11
            have H1 : (some 21) = some r := by rw [if_neg (show ¬ (false = true) by decide)] at H; exact H
            clear H
            have H := H1
            clear H1
            obtain rfl := Option.some.inj H
            have hcz13_0 : wc.cell? ⟨gb115, 0, none⟩ = some (.int .i64 a0_0) := (blk_cell BK115.out 0).trans rfl
            have hcz13_1 : wc.cell? ⟨gb115, 1, none⟩ = some (.int .i64 a0_1) := (blk_cell BK115.out 1).trans rfl
            have hcz13_2 : wc.cell? ⟨gb115, 2, none⟩ = some (.int .i64 a0_2) := (blk_cell BK115.out 2).trans rfl
            have hfz13_0 := blk_frozen BK115.out 0
            have hfz13_1 := blk_frozen BK115.out 1
            have hfz13_2 := blk_frozen BK115.out 2
            go_wp2_with (first | ((with_reducible refine gate_callee (f := 44) rfl ?_); refine goesL_ (some 9) rfl rfl Tryz.func44 (by kernel_rfl) rfl #[.int .i64 a0_0, .int .i64 1, .int .i64 6] rfl (by (try simp only [List.map_toArray, List.map_cons, List.map_nil]); first | done | rfl | (simp only [List.length_drop, List.length_take]; rfl)) ?_; (with_reducible refine (pack_from.calls a0_0 1 6 true _ A6.out).mono ?_); rintro e w' ⟨rfl, ⟨nd, rfl⟩⟩; refine ⟨_, rfl, ?_⟩) | (go_at_call 44; (with_reducible refine (pack_from.calls a0_1 0 65536 true _ A8.out).mono ?_); rintro e w' ⟨rfl, ⟨nd, rfl⟩⟩) | (go_at_call 44; (with_reducible refine (pack_from.calls a0_2 0 x3_1 false _ A10.out).mono ?_); rintro e w' ⟨rfl, ⟨nd, rfl⟩⟩))
            go_ret
            exact ⟨by first | rfl | (simp [errW_none, errW_some] <;> rfl) | (simp [*, errW_none, errW_some] <;> rfl), by repeat (first | (with_reducible first | exact HB.out | apply below_alloc | apply pw_below_drewN | apply below_drew1 | refine below_set ?_ GE115.out) | exact HB.out)⟩
        · replace c9 := Bool.eq_false_iff.mpr c9
          subst c9
          have H1 : (some 21) = some r := by rw [if_neg (show ¬ (false = true) by decide)] at H; exact H
          clear H
          have H := H1
          clear H1
          obtain rfl := Option.some.inj H
          have hcz14_0 : wc.cell? ⟨gb115, 0, none⟩ = some (.int .i64 a0_0) := (blk_cell BK115.out 0).trans rfl
          have hcz14_1 : wc.cell? ⟨gb115, 1, none⟩ = some (.int .i64 a0_1) := (blk_cell BK115.out 1).trans rfl
          have hcz14_2 : wc.cell? ⟨gb115, 2, none⟩ = some (.int .i64 a0_2) := (blk_cell BK115.out 2).trans rfl
          have hfz14_0 := blk_frozen BK115.out 0
          have hfz14_1 := blk_frozen BK115.out 1
          have hfz14_2 := blk_frozen BK115.out 2
          go_wp2_with (first | ((with_reducible refine gate_callee (f := 44) rfl ?_); refine goesL_ (some 9) rfl rfl Tryz.func44 (by kernel_rfl) rfl #[.int .i64 a0_0, .int .i64 1, .int .i64 6] rfl (by (try simp only [List.map_toArray, List.map_cons, List.map_nil]); first | done | rfl | (simp only [List.length_drop, List.length_take]; rfl)) ?_; (with_reducible refine (pack_from.calls a0_0 1 6 true _ A6.out).mono ?_); rintro e w' ⟨rfl, ⟨nd, rfl⟩⟩; refine ⟨_, rfl, ?_⟩) | (go_at_call 44; (with_reducible refine (pack_from.calls a0_1 0 65536 false _ A8.out).mono ?_); rintro e w' ⟨rfl, ⟨nd, rfl⟩⟩))
          go_ret
          exact ⟨by first | rfl | (simp [errW_none, errW_some] <;> rfl) | (simp [*, errW_none, errW_some] <;> rfl), by repeat (first | (with_reducible first | exact HB.out | apply below_alloc | apply pw_below_drewN | apply below_drew1 | refine below_set ?_ GE115.out) | exact HB.out)⟩
      · replace c7 := Bool.eq_false_iff.mpr c7
        subst c7
        have H1 : (some 21) = some r := by rw [if_neg (show ¬ (false = true) by decide)] at H; exact H
        clear H
        have H := H1
        clear H1
        obtain rfl := Option.some.inj H
        have hcz15_0 : wc.cell? ⟨gb115, 0, none⟩ = some (.int .i64 a0_0) := (blk_cell BK115.out 0).trans rfl
        have hcz15_1 : wc.cell? ⟨gb115, 1, none⟩ = some (.int .i64 a0_1) := (blk_cell BK115.out 1).trans rfl
        have hcz15_2 : wc.cell? ⟨gb115, 2, none⟩ = some (.int .i64 a0_2) := (blk_cell BK115.out 2).trans rfl
        have hfz15_0 := blk_frozen BK115.out 0
        have hfz15_1 := blk_frozen BK115.out 1
        have hfz15_2 := blk_frozen BK115.out 2
        go_wp2_with (first | ((with_reducible refine gate_callee (f := 44) rfl ?_); refine goesL_ (some 9) rfl rfl Tryz.func44 (by kernel_rfl) rfl #[.int .i64 a0_0, .int .i64 1, .int .i64 6] rfl (by (try simp only [List.map_toArray, List.map_cons, List.map_nil]); first | done | rfl | (simp only [List.length_drop, List.length_take]; rfl)) ?_; (with_reducible refine (pack_from.calls a0_0 1 6 false _ A6.out).mono ?_); rintro e w' ⟨rfl, ⟨nd, rfl⟩⟩; refine ⟨_, rfl, ?_⟩))
        go_ret
        exact ⟨by first | rfl | (simp [errW_none, errW_some] <;> rfl) | (simp [*, errW_none, errW_some] <;> rfl), by repeat (first | (with_reducible first | exact HB.out | apply below_alloc | apply pw_below_drewN | apply below_drew1 | refine below_set ?_ GE115.out) | exact HB.out)⟩
end Go.Proofs.YtpldcikmlpegpaaGreatDoor.PB
end
section
namespace Go.Proofs.YtpldcikmlpegpaaGreatDoor.PB
open Go.RowKit Go.Proofs.YtpldcikmlpegpaaGreatDoor.Col Go.Proofs.YtpldcikmlpegpaaGreatDoorW.PrintWords Go.Proofs.YtpldcikmlpegpaaGreatDoorW.PrintLast Go.Proofs.YtpldcikmlpegpaaGreatDoorW.PrintMore
attribute [local go_sem] max2_int min2_int max_two min_two
def pack_Apply.f (l : List S47) (k m cold : Int) : Option (List S47 × Int × Int) :=
  (pack_Check.f 200 l).bind fun e => if e = 0 then ((pack_CheckStep.f 5 k m cold).bind fun e2 => if e2 = 0 then
    ((pack_Check.f 200 ((C.of l).step k m cold).live).bind fun e3 => if e3 = 0 then some (((C.of l).step k m cold).live, ((C.of l).step k m cold).out, 0) else some ([], 0, 2))
    else some ([], 0, e2)) else some ([], 0, e)
theorem check_len {k : Nat} {l : List S47} (h : pack_Check.f k l = some 0) : l.length ≤ 64 := by
  unfold pack_Check.f at h
  split at h
  · simp at h
  · omega
theorem checkStep_ok {j : Nat} {k m cold : Int} (h : pack_CheckStep.f j k m cold = some 0) : 1 ≤ k ∧ k ≤ 6 ∧ 0 ≤ m ∧ m ≤ 65536 := by
  cases j with
  | zero => simp [pack_CheckStep.f, pack_CheckStep.j0] at h
  | succ j =>
    unfold pack_CheckStep.f at h
    simp only [pack_CheckStep.j0, pack_from.f] at h
    by_cases h1 : k ≥ 1 <;> by_cases h2 : k ≤ 6 <;> by_cases h3 : m ≥ 0 <;> by_cases h4 : m ≤ 65536 <;> simp [h1, h2, h3, h4] at h ⊢ <;> omega
theorem step_inv (c : C) (k m cold : Int) (ht : c.top ≤ c.n) : (c.step k m cold).n = c.n ∧ (c.step k m cold).top ≤ c.n := by
  have tm : ∀ (f : C → C), RoundC f → ∀ (j : Nat) (d : C), d.top ≤ d.n → (C.times f j d).n = d.n ∧ (C.times f j d).top ≤ d.n := by
    intro f hf j
    induction j with
    | zero => intro d hd; exact ⟨rfl, hd⟩
    | succ j ih =>
      intro d hd
      simp only [C.times]
      split
      · exact ⟨rfl, hd⟩
      · rename_i hne
        have h1 := hf.n d
        have h2 := hf.top d (by omega)
        have := ih (f d) (by omega)
        rw [h1] at this
        exact this
  unfold C.step
  split
  · split
    · exact ⟨rfl, by show c.top - 1 ≤ c.n; omega⟩
    · exact ⟨rfl, ht⟩
  · split
    · exact ⟨rfl, ht⟩
    · split
      · exact tm _ melt_roundC _ _ ht
      · split
        · unfold C.freeze
          simp only []
          split <;> exact ⟨rfl, ht⟩
        · split
          · exact tm _ vanish_roundC _ _ ht
          · exact ⟨rfl, ht⟩
theorem do_calls (w : World) (g : Nat) (c : C) (k m cold : Int) (h : Is w g c) (hn65 : c.n ≤ 65) (h1 : 1 ≤ c.top) (ht : c.top ≤ c.n) (hk : 1 ≤ k) (hk6 : k ≤ 6) (hm : m ≤ 9223372036854775807) :
    Calls Tryz.prog 38 #[.pointer (some ⟨g, 0, none⟩), .agg #[.int .i64 k, .int .i64 m, .int .i64 cold]] w fun e w' => e = .returned (.tuple #[]) ∧ Is w' g (c.step k m cold) ∧ KeepG g w w' := by
  have hc : k = 1 ∨ k = 2 ∨ k = 3 ∨ k = 4 ∨ k = 5 ∨ k = 6 := by omega
  rcases hc with rfl | rfl | rfl | rfl | rfl | rfl
  · exact do_snow w g c m cold h hn65 h1 ht
  · exact do_rain w g c m cold h hn65 ht
  · exact do_melt w g c m cold h hn65 ht hm
  · exact do_freeze w g c m cold h hn65 ht
  · exact do_loss w g c m cold h hn65 ht hm
  · exact do_blown w g c m cold h hn65 ht hm
set_option maxRecDepth 100000 in
set_option maxHeartbeats 4000000 in
theorem pack_Apply.calls (A0_0 : Option Addr) (c0_0 : Nat) (l0_0 : List (S47)) (a1_0 : Int) (a1_1 : Int) (a1_2 : Int) (r1 : List (S47)) (r2 : Int) (r3 : Int) (w : World) (hr0_0 : Kd.C k47 w A0_0 l0_0.length l0_0) (hc0_0 : l0_0.length ≤ c0_0) (h : pack_Apply.f l0_0 a1_0 a1_1 a1_2 = some (r1, r2, r3)) :
    Calls Tryz.prog 18 #[.agg #[.slice A0_0 l0_0.length c0_0], .agg #[.int .i64 a1_0, .int .i64 a1_1, .int .i64 a1_2]] w fun e w' => ∃ v0_ : Value, e = .returned (.tuple #[.agg #[v0_], .int .i64 r2, .int .i64 r3]) ∧ Kd.R k47 47 w' w.heap.size (fun _ => True) v0_ r1 ∧ Below w.heap.size w w' := by
  have hu24 := Tryz.underlying26
  have hu26 := Tryz.underlying23
  have HR := Aside0.mk hr0_0
  have HC := Aside0.mk hc0_0
  clear hr0_0 hc0_0
  unfold pack_Apply.f at h
  replace h := Option.bind_eq_some_iff.mp h
  obtain ⟨e1, E1, h⟩ := h
  have HE1 := Aside0.mk E1
  have HH := Aside0.mk h
  clear E1 h
  go_enter Tryz.func18, Tryz.ntmps18
  go_upto_region 1 with (fail)
  obtain ⟨B, hB⟩ : ∃ B, w.heap.size = B := ⟨_, rfl⟩
  obtain ⟨V1, hV1⟩ : ∃ W1, w.alloc (.cells #[.slice A0_0 l0_0.length c0_0] 26 (0, 0)) = W1 := ⟨_, rfl⟩
  obtain ⟨V2, hV2⟩ : ∃ W1, V1.alloc (.cells #[.int .i64 a1_0, .int .i64 a1_1, .int .i64 a1_2] 23 (0, 0)) = W1 := ⟨_, rfl⟩
  obtain ⟨W1, hW1⟩ : ∃ W1, V2.alloc (.cells #[.slice none 0 0] 26 (0, 0)) = W1 := ⟨_, rfl⟩
  have s1 : V1.heap.size = B + 1 := by rw [← hV1, ← hB]; simp
  have s2 : V2.heap.size = B + 2 := by rw [← hV2]; simp [s1]
  have s3 : W1.heap.size = B + 3 := by rw [← hW1]; simp [s2]
  have b1 : Below B w V1 := by rw [← hV1, ← hB]; exact (Below.refl _ _).alloc (Nat.le_refl _) _
  have b2 : Below B w V2 := by rw [← hV2]; exact b1.alloc (by omega) _
  have b3 : Below B w W1 := by rw [← hW1]; exact b2.alloc (by omega) _
  have p0 : W1.heap[B]? = some (.cells #[.slice A0_0 l0_0.length c0_0] 26 (0, 0)) := by rw [← hW1]; refine blk_alloc ?_ _; rw [← hV2]; refine blk_alloc ?_ _; rw [← hV1, ← hB]; exact blk_new _ _
  have p1 : W1.heap[B + 1]? = some (.cells #[.int .i64 a1_0, .int .i64 a1_1, .int .i64 a1_2] 23 (0, 0)) := by rw [← hW1]; refine blk_alloc ?_ _; rw [← hV2, ← s1]; exact blk_new _ _
  have p2 : W1.heap[B + 1 + 1]? = some (.cells #[.slice none 0 0] 26 (0, 0)) := by rw [← hW1, show B + 1 + 1 = V2.heap.size from s2.symm]; exact blk_new _ _
  rw [hV1, hV2, hW1, hB]
  have K : Aside0 (∀ wX : World, Below W1.heap.size W1 wX → wX.heap[B]? = some (.cells #[.slice A0_0 l0_0.length c0_0] 26 (0, 0)) ∧ wX.heap[B + 1]? = some (.cells #[.int .i64 a1_0, .int .i64 a1_1, .int .i64 a1_2] 23 (0, 0)) ∧ wX.heap[B + 1 + 1]? = some (.cells #[.slice none 0 0] 26 (0, 0))) :=
    ⟨fun wX hb => ⟨blk_below p0 hb, blk_below p1 hb, blk_below p2 hb⟩⟩
  have HS3 := Aside0.mk s3
  have HB3 := Aside0.mk b3
  have HBq := Aside0.mk hB
  have F : Aside0 (∀ (wX : World) (v : Value), Below W1.heap.size W1 wX → Below w.heap.size w (wX.setCell ⟨B + 1 + 1, 0, none⟩ v)) :=
    ⟨fun wX v hb => by rw [HBq.out]; exact (HB3.out.trans (hb.mono (by rw [HS3.out]; omega))).setCell (p := ⟨B + 1 + 1, 0, none⟩) (by show B ≤ B + 1 + 1; omega) v⟩
  have q0 : W1.cell? ⟨B, 0, none⟩ = some (.slice A0_0 l0_0.length c0_0) := (blk_cell p0 0).trans rfl
  clear hV1 hV2 hW1 s1 s2 s3 b1 b2 b3 p0 p1 p2 hB
  go_upto_if 15 with (first | (go_at_call 32; refine (pack_Check.calls 200 A0_0 c0_0 l0_0 e1 _ (Kd.C_below HR.out (by rw [HBq.out]; exact HB3.out)) HC.out HE1.out).mono ?_; rintro e w7 ⟨rfl, hb⟩; have HB7 := Aside0.mk hb; clear hb q0))
  by_cases h1 : e1 = 0
  · have z0 : (e1 != 0) = false := by simp [h1]
    have h2 := HH.out
    rw [if_pos h1] at h2
    replace h2 := Option.bind_eq_some_iff.mp h2
    obtain ⟨e2, E2, h2⟩ := h2
    have HE2 := Aside0.mk E2
    have HH2 := Aside0.mk h2
    have HZ1 := Aside0.mk h1
    clear E2 h2 HH h1
    obtain ⟨k0, k1, k2⟩ := K.out _ HB7.out
    have c0 : w7.cell? ⟨B + 1, 0, none⟩ = some (.int .i64 a1_0) := (blk_cell k1 0).trans rfl
    have c1 : w7.cell? ⟨B + 1, 1, none⟩ = some (.int .i64 a1_1) := (blk_cell k1 1).trans rfl
    have c2 : w7.cell? ⟨B + 1, 2, none⟩ = some (.int .i64 a1_2) := (blk_cell k1 2).trans rfl
    clear k0 k1 k2
    go_upto_if 21 with (first | (go_at_call 22; refine (pack_CheckStep.calls 5 a1_0 a1_1 a1_2 e2 _ HE2.out).mono ?_; rintro e w8 ⟨rfl, hb⟩; have HB8 := Aside0.mk (below_step HB7.out hb); clear hb c0 c1 c2 z0))
    by_cases h2 : e2 = 0
    · have z0 : (e2 != 0) = false := by simp [h2]
      have h3 := HH2.out
      rw [if_pos h2] at h3
      replace h3 := Option.bind_eq_some_iff.mp h3
      obtain ⟨e3, E3, h3⟩ := h3
      have HE3 := Aside0.mk E3
      have HH3 := Aside0.mk h3
      have HOK := Aside0.mk (checkStep_ok (h2 ▸ HE2.out))
      have HLN := Aside0.mk (check_len (HZ1.out ▸ HE1.out))
      clear E3 h3 HH2 h2
      obtain ⟨k0, k1, k2⟩ := K.out _ HB8.out
      have q0 : w8.cell? ⟨B, 0, none⟩ = some (.slice A0_0 l0_0.length c0_0) := (blk_cell k0 0).trans rfl
      clear k0 k1 k2
      go_upto_region 8 with (first | (go_at_call 37; refine (of_calls A0_0 c0_0 l0_0 _ (Kd.C_below HR.out (by rw [HBq.out]; exact HB3.out.trans (HB8.out.mono (by rw [HS3.out]; omega)))) HLN.out).mono ?_; rintro e w9 ⟨g, rfl, hI, hg, hb⟩; have HI9 := Aside0.mk hI; have HG := Aside0.mk (Nat.le_trans HB8.out.size hg); have HB9 := Aside0.mk (below_step HB8.out hb); clear hI hg hb q0 z0))
      obtain ⟨d, hd⟩ : ∃ d, (C.of l0_0).step a1_0 a1_1 a1_2 = d := ⟨_, rfl⟩
      have HINV := Aside0.mk (step_inv (C.of l0_0) a1_0 a1_1 a1_2 (show 1 ≤ l0_0.length + 1 by omega))
      rw [hd] at HE3 HH3 HINV
      have HD := Aside0.mk hd
      clear hd
      have HDN : Aside0 (d.n ≤ 65 ∧ d.top ≤ d.n) := ⟨by have h1 := HINV.out.1; have h2 := HINV.out.2; have h3 := HLN.out; have h4 : (C.of l0_0).n = l0_0.length + 1 := rfl; omega⟩
      obtain ⟨k0, k1, k2⟩ := K.out _ HB9.out
      have c0 : w9.cell? ⟨B + 1, 0, none⟩ = some (.int .i64 a1_0) := (blk_cell k1 0).trans rfl
      have c1 : w9.cell? ⟨B + 1, 1, none⟩ = some (.int .i64 a1_1) := (blk_cell k1 1).trans rfl
      have c2 : w9.cell? ⟨B + 1, 2, none⟩ = some (.int .i64 a1_2) := (blk_cell k1 2).trans rfl
      clear k0 k1 k2
      go_upto_region 9 with (first | (go_at_call 38; refine (do_calls _ g (C.of l0_0) a1_0 a1_1 a1_2 HI9.out (by have := HLN.out; show l0_0.length + 1 ≤ 65; omega) (Nat.le_refl _) (by show 1 ≤ l0_0.length + 1; omega) HOK.out.1 HOK.out.2.1 (by have := HOK.out.2.2.2; omega)).mono ?_; rintro e w10 ⟨rfl, hI, hK⟩; have HI10 : Aside0 (Is w10 g d) := ⟨HD.out ▸ hI⟩; have HB10 := Aside0.mk (hK.below HB9.out HG.out HB9.out.size); clear hI hK c0 c1 c2))
      go_upto_if 35 with (first | (go_at_call 39; refine (pack_calls 200 e3 _ g d HI10.out HDN.out.1 HDN.out.2 HE3.out).mono ?_; rintro e w11 ⟨v, rfl, hR, hb⟩; obtain ⟨A3, c3, rfl⟩ := Kd.R_slice hR; have HR11 := Aside0.mk (Kd.R_lower hR HB10.out.size); have HI11 := Aside0.mk (HI10.out.below hb); have HB11 := Aside0.mk (below_step HB10.out hb); clear hR hb))
      obtain ⟨q, hq⟩ : ∃ q, w11.heap.size = q := ⟨_, rfl⟩
      obtain ⟨W12, hW12⟩ : ∃ W12, w11.alloc (.cells #[.slice A3 (limitL e3 d.live).length c3] 26 (0, 0)) = W12 := ⟨_, rfl⟩
      rw [hW12, hq]
      have HB12 : Aside0 (Below W1.heap.size W1 W12) := ⟨by rw [← hW12]; exact HB11.out.alloc HB11.out.size _⟩
      have HQ : Aside0 (W12.heap[q]? = some (.cells #[.slice A3 (limitL e3 d.live).length c3] 26 (0, 0))) := ⟨by rw [← hW12, ← hq]; exact blk_new _ _⟩
      have HR12 : Aside0 (Kd.R k47 47 W12 W1.heap.size (fun _ => True) (.slice A3 (limitL e3 d.live).length c3) (limitL e3 d.live)) := ⟨by rw [← hW12]; exact Kd.R_alloc HR11.out _⟩
      have HI12 : Aside0 (Is W12 g d) := ⟨by rw [← hW12]; exact HI11.out.alloc _⟩
      have HNE : q ≠ B + 1 + 1 := by have := HB11.out.size; have := HS3.out; omega
      have HNE2 : g ≠ B + 1 + 1 := by have := HG.out; have := HS3.out; omega
      clear hW12 hq HB11 HR11 HI11
      obtain ⟨k0, k1, k2⟩ := K.out _ HB12.out
      have HK2 := Aside0.mk k2
      have c4 : W12.cell? ⟨B + 1 + 1, 0, none⟩ = some (.slice none 0 0) := (blk_cell k2 0).trans rfl
      have f4 := blk_frozen k2 0
      have cq : W12.cell? ⟨q, 0, none⟩ = some (.slice A3 (limitL e3 d.live).length c3) := (blk_cell HQ.out 0).trans rfl
      have co := HI12.out.out
      clear k0 k1 k2
      by_cases h3 : e3 = 0
      · have eL : limitE e3 = 0 := if_pos h3
        have z0 : (limitE e3 != 0) = false := by simp [eL]
        have h4 := HH3.out
        rw [if_pos h3] at h4
        simp only [Option.some.injEq, Prod.mk.injEq] at h4
        obtain ⟨rfl, rfl, rfl⟩ := h4
        have HLL : Aside0 (limitL e3 d.live = d.live) := ⟨if_pos h3⟩
        clear h3 eL
        go_upto_region 12 with (fail)
        go_region
        go_wp2
        refine bodyPost_ret (results_ctt rfl _ _ (B + 1 + 1) 26 #[.slice A3 (limitL e3 d.live).length c3] (0, 0) _ rfl (blk_drew (blk_put (cs := #[.slice none 0 0]) HK2.out 0 _ rfl)) Tryz.underlying26 rfl (by kernel_rfl)) rfl ?_
        have hR := Kd.R_lower (R_set_low (i := 0) HR12.out (B := B + 1 + 1) (by have := HS3.out; omega) (.slice A3 (limitL e3 d.live).length c3)) (show w.heap.size ≤ B + 1 + 1 by have := HBq.out; omega)
        rw [HLL.out] at hR ⊢
        exact ⟨_, rfl, Kd.R_drew hR, (F.out _ _ HB12.out).drew⟩
      · have eL : limitE e3 = 2 := if_neg h3
        have z0 : (limitE e3 != 0) = true := by simp [eL]
        have h4 := HH3.out
        rw [if_neg h3] at h4
        simp only [Option.some.injEq, Prod.mk.injEq] at h4
        obtain ⟨rfl, rfl, rfl⟩ := h4
        have EL := Aside0.mk eL
        clear h3 eL
        go_wp2
        refine bodyPost_ret (results_ctt rfl _ _ (B + 1 + 1) 26 #[.slice none 0 0] (0, 0) _ rfl (blk_put (cs := #[.slice none 0 0]) HK2.out 0 _ rfl) Tryz.underlying26 rfl (by kernel_rfl)) rfl ?_
        exact ⟨_, by rw [EL.out]; rfl, Kd.R_nil _ _ _ _ _, F.out _ _ HB12.out⟩
    · have z0 : (e2 != 0) = true := by simp [h2]
      have h3 := HH2.out
      rw [if_neg h2] at h3
      simp only [Option.some.injEq, Prod.mk.injEq] at h3
      obtain ⟨rfl, rfl, rfl⟩ := h3
      clear h2
      obtain ⟨k0, k1, k2⟩ := K.out _ HB8.out
      have HK2 := Aside0.mk k2
      have c4 : w8.cell? ⟨B + 1 + 1, 0, none⟩ = some (.slice none 0 0) := (blk_cell k2 0).trans rfl
      have f4 := blk_frozen k2 0
      clear k0 k1 k2
      go_wp2
      refine bodyPost_ret (results_ctt rfl _ _ (B + 1 + 1) 26 #[.slice none 0 0] (0, 0) _ rfl (blk_put (cs := #[.slice none 0 0]) HK2.out 0 _ rfl) Tryz.underlying26 rfl (by kernel_rfl)) rfl ?_
      exact ⟨_, rfl, Kd.R_nil _ _ _ _ _, F.out _ _ HB8.out⟩
  · have z0 : (e1 != 0) = true := by simp [h1]
    have h2 := HH.out
    rw [if_neg h1] at h2
    simp only [Option.some.injEq, Prod.mk.injEq] at h2
    obtain ⟨rfl, rfl, rfl⟩ := h2
    clear h1
    obtain ⟨k0, k1, k2⟩ := K.out _ HB7.out
    have HK2 := Aside0.mk k2
    have c4 : w7.cell? ⟨B + 1 + 1, 0, none⟩ = some (.slice none 0 0) := (blk_cell k2 0).trans rfl
    have f4 := blk_frozen k2 0
    clear k0 k1 k2
    go_wp2
    refine bodyPost_ret (results_ctt rfl _ _ (B + 1 + 1) 26 #[.slice none 0 0] (0, 0) _ rfl (blk_put (cs := #[.slice none 0 0]) HK2.out 0 _ rfl) Tryz.underlying26 rfl (by kernel_rfl)) rfl ?_
    exact ⟨_, rfl, Kd.R_nil _ _ _ _ _, F.out _ _ HB7.out⟩
end Go.Proofs.YtpldcikmlpegpaaGreatDoor.PB
end
section
namespace Go.Proofs.YtpldcikmlpegpaaGreatDoor.Plain
open Go.RowKit Go.Proofs.YtpldcikmlpegpaaGreatDoor.PB Go.Proofs.YtpldcikmlpegpaaGreatDoor.Col Go.Proofs.YtpldcikmlpegpaaGreatDoorW.PrintWords Go.Proofs.YtpldcikmlpegpaaGreatDoorW.PrintMore
def StepOk (k m cd : Int) : Prop := (1 ≤ k ∧ k ≤ 6) ∧ (0 ≤ m ∧ m ≤ 65536) ∧ (0 ≤ cd ∧ cd ≤ if k = 1 then 65536 else 0)
instance (k m cd : Int) : Decidable (StepOk k m cd) := inferInstanceAs (Decidable (_ ∧ _))
def stepE (k m cd : Int) : Int := if StepOk k m cd then 0 else 21
theorem step_eq {j : Nat} (k m cd : Int) : pack_CheckStep.f (j + 1) k m cd = some (stepE k m cd) := by
  unfold pack_CheckStep.f stepE
  simp only [pack_CheckStep.j0, from_eq, Option.bind_some, decide_eq_true_eq]
  by_cases h1 : 1 ≤ k ∧ k ≤ 6
  · by_cases h2 : 0 ≤ m ∧ m ≤ 65536
    · by_cases hk : k = 1
      · by_cases h3 : 0 ≤ cd ∧ cd ≤ 65536
        · rw [if_pos hk, if_pos h1, if_pos h2, if_pos h3, if_pos (show StepOk k m cd from ⟨h1, h2, by rw [if_pos hk]; exact h3⟩)]
        · rw [if_pos hk, if_pos h1, if_pos h2, if_neg h3, if_neg (fun h : StepOk k m cd => h3 (by have := h.2.2; rw [if_pos hk] at this; exact this))]
      · by_cases h3 : 0 ≤ cd ∧ cd ≤ 0
        · rw [if_neg hk, if_pos h1, if_pos h2, if_pos h3, if_pos (show StepOk k m cd from ⟨h1, h2, by rw [if_neg hk]; exact h3⟩)]
        · rw [if_neg hk, if_pos h1, if_pos h2, if_neg h3, if_neg (fun h : StepOk k m cd => h3 (by have := h.2.2; rw [if_neg hk] at this; exact this))]
    · rw [if_neg (fun h : StepOk k m cd => h2 h.2.1)]
      split <;> rfl
  · rw [if_neg (fun h : StepOk k m cd => h1 h.1)]
    split <;> rfl
end Go.Proofs.YtpldcikmlpegpaaGreatDoor.Plain
end
section
namespace Go.Proofs.YtpldcikmlpegpaaGreatDoor.PB
open Go.RowKit Go.Proofs.YtpldcikmlpegpaaGreatDoorW.PrintWords Go.Proofs.YtpldcikmlpegpaaGreatDoorW.PrintLast Go.Proofs.YtpldcikmlpegpaaGreatDoorW.PrintMore
attribute [local go_sem] max2_int min2_int max_two min_two max_three min_three max_four min_four   -- for this text's walks alone
set_option linter.unusedVariables false
set_option linter.unusedSimpArgs false
def snowlineref02_within.f (a0 : Int) (a1 : Int) (a2 : Int) : Option (Bool) := if a0 ≥ a1 then (some (decide (a0 ≤ a2))) else (some false)
set_option maxHeartbeats 8000000 in
set_option maxRecDepth 100000 in
theorem snowlineref02_within.calls (a0 : Int) (a1 : Int) (a2 : Int) (r : Bool) (w : World) (h : snowlineref02_within.f a0 a1 a2 = some r) :
    Calls Tryz.prog 49 #[.int .i64 a0, .int .i64 a1, .int .i64 a2] w fun e w' => e = .returned (.bool r) ∧ Drawn0 w w' := by
  have H : (if a0 ≥ a1 then (some (decide (a0 ≤ a2))) else (some false)) = some r := h
  clear h
  by_cases c4 : a0 ≥ a1
  · rw [if_pos c4] at H
    have c4b0 : decide (a1 ≤ a0) = true := decide_eq_true c4
    clear c4
    obtain rfl := Option.some.inj H
    go_enter Tryz.func49, Tryz.ntmps49
    go_wp2
    go_ret
    exact ⟨by first | rfl | (simp; done) | (simp [*]; done), by repeat (first | exact Drawn0.refl _ | apply Drawn0.step)⟩
  · rw [if_neg c4] at H
    have c4b0 : decide (a1 ≤ a0) = false := decide_eq_false c4
    clear c4
    obtain rfl := Option.some.inj H
    go_enter Tryz.func49, Tryz.ntmps49
    go_wp2
    go_ret
    exact ⟨by first | rfl | (simp; done) | (simp [*]; done), by repeat (first | exact Drawn0.refl _ | apply Drawn0.step)⟩
def snowlineref02_hold.f (a0_0 : Int) (a0_1 : Int) (a0_2 : Int) : Option (Int) := some (wrap64 (Int.tdiv a0_0 20))
set_option maxHeartbeats 8000000 in
set_option maxRecDepth 100000 in
theorem snowlineref02_hold.calls (a0_0 : Int) (a0_1 : Int) (a0_2 : Int) (r : Int) (w : World) (h : snowlineref02_hold.f a0_0 a0_1 a0_2 = some r) :
    Calls Tryz.prog 73 #[.agg #[.int .i64 a0_0, .int .i64 a0_1, .int .i64 a0_2]] w fun e w' => e = .returned (.int .i64 r) ∧ Below w.heap.size w w' := by
  have hu47 := Tryz.underlying47
  have HB := Aside0.mk (Below.refl w.heap.size w)
  have H : (some (wrap64 (Int.tdiv a0_0 20))) = some r := h
  clear h
  obtain rfl := Option.some.inj H
  go_enter Tryz.func73, Tryz.ntmps73
  go_wp2_with (first | ((with_reducible refine gate_dst (N := 1) rfl ?_); refine box_event ?hg (N := 1) ?hd (cs := #[.int .i64 a0_0, .int .i64 a0_1, .int .i64 a0_2]) (t := 47) ?hr ?_; (case hd => rfl); (case hg => rfl); (case hr => first | (go_simp; done) | (go_simp; rfl)); intro gb159 hg w2 hbox hb; have n0_ := Aside0.mk (below_step (by repeat (first | (with_reducible first | exact HB.out | apply below_alloc | apply pw_below_drewN | apply below_drew1) | exact HB.out)) hb); have n1_ := Aside0.mk (hbox); have n2_ := Aside0.mk ((by rw [hg]; exact (below_size (by repeat (first | (with_reducible first | exact HB.out | apply below_alloc | apply pw_below_drewN | apply below_drew1) | exact HB.out))) : w.heap.size ≤ gb159)); have n3_ := Aside0.mk ((by rw [hg]; exact (below_size (by repeat (first | (with_reducible first | exact HB.out | apply below_alloc | apply pw_below_drewN | apply below_drew1) | exact HB.out))) : w.heap.size ≤ gb159)); clear HB; have HB := n0_; have BK159 := n1_; have GW159 := n2_; have GE159 := n3_; clear n0_ n1_ n2_ n3_; clear hb hbox hg; have hcz3_0 : w2.cell? ⟨gb159, 0, none⟩ = some (.int .i64 a0_0) := (blk_cell BK159.out 0).trans rfl; have hcz3_1 : w2.cell? ⟨gb159, 1, none⟩ = some (.int .i64 a0_1) := (blk_cell BK159.out 1).trans rfl; have hcz3_2 : w2.cell? ⟨gb159, 2, none⟩ = some (.int .i64 a0_2) := (blk_cell BK159.out 2).trans rfl; have hfz3_0 := blk_frozen BK159.out 0; have hfz3_1 := blk_frozen BK159.out 1; have hfz3_2 := blk_frozen BK159.out 2))
  go_ret
  exact ⟨by first | rfl | (simp [errW_none, errW_some] <;> rfl) | (simp [*, errW_none, errW_some] <;> rfl), by repeat (first | (with_reducible first | exact HB.out | apply below_alloc | apply pw_below_drewN | apply below_drew1 | refine below_set ?_ GE159.out) | exact HB.out)⟩
end Go.Proofs.YtpldcikmlpegpaaGreatDoor.PB
end
section
namespace Go.Proofs.YtpldcikmlpegpaaGreatDoor.PB
open Go.RowKit Go.Proofs.YtpldcikmlpegpaaGreatDoorW.PrintWords Go.Proofs.YtpldcikmlpegpaaGreatDoorW.PrintLast Go.Proofs.YtpldcikmlpegpaaGreatDoorW.PrintMore
attribute [local go_sem] max2_int min2_int max_two min_two max_three min_three max_four min_four   -- for this text's walks alone
set_option linter.unusedVariables false
set_option linter.unusedSimpArgs false
def snowlineref02_layer.f (a0_0 : Int) (a0_1 : Int) (a0_2 : Int) : Option (Bool) := (snowlineref02_within.f a0_0 1 65536).bind fun t161 => (if t161 = true then ((snowlineref02_hold.f a0_0 a0_1 a0_2).bind fun t162 => ((snowlineref02_within.f a0_1 0 t162).bind fun t163 => (if t163 = true then ((snowlineref02_within.f a0_2 0 65536).bind fun t164 => (if t164 = true then (if a0_1 = 0 then (some true) else (some (a0_2 == 0))) else (some false))) else (some false)))) else (some false))
def snowlineref02_layer.T1 : Bool × List (List Nat × List Nat) := (true, [([], []), ([0], [0]), ([1], [1]), ([2, 2], [2]), ([3], [3]), ([4, 3], [3, 4]), ([3], [3]), ([6, 3, 3], [3, 6]), ([5, 7, 7, 3], [3, 5, 7]), ([3, 8], [3, 8]), ([9, 8], [9]), ([10], [10]), ([11, 10], [10, 11]), ([12, 10, 10], [10, 12]), ([10, 13], [10, 13]), ([14, 13], [14]), ([15], [15]), ([16, 15], [15, 16]), ([17, 15], [15, 17]), ([18, 15, 15], [15, 18]), ([19], [19]), ([20, 19], [19, 20]), ([21, 19], [19, 21]), ([19, 22, 15], [15, 19, 22]), ([15, 23], [15, 23]), ([24, 19, 0, 1, 2, 3, 4, 5, 6, 7, 8, 9, 10, 11, 12, 13, 14, 15, 16, 17, 18, 19, 20, 21, 22, 23, 24], [24])])
def snowlineref02_layer.B1 : List Nat := [0, 1, 3, 7, 15, 31, 15, 79, 255, 511, 1023, 2047, 4095, 8191, 16383, 32767, 65535, 131071, 262143, 524287, 1048575, 2097151, 4194303, 8388607, 16777215, 33554431]
theorem snowlineref02_layer.tab1 : rtab .any (opsOf Tryz.f56 1) = snowlineref02_layer.T1 := by kernel_rfl
theorem snowlineref02_layer.bits1 : waitsOk snowlineref02_layer.T1.2 snowlineref02_layer.B1 = true := by kernel_rfl
set_option maxHeartbeats 8000000 in
set_option maxRecDepth 100000 in
theorem snowlineref02_layer.calls (a0_0 : Int) (a0_1 : Int) (a0_2 : Int) (r : Bool) (w : World) (h : snowlineref02_layer.f a0_0 a0_1 a0_2 = some r) :
    Calls Tryz.prog 56 #[.agg #[.int .i64 a0_0, .int .i64 a0_1, .int .i64 a0_2]] w fun e w' => e = .returned (.bool r) ∧ Below w.heap.size w w' := by
  have hu47 := Tryz.underlying47
  have HB := Aside0.mk (Below.refl w.heap.size w)
  have H : ((snowlineref02_within.f a0_0 1 65536).bind fun t161 => (if t161 = true then ((snowlineref02_hold.f a0_0 a0_1 a0_2).bind fun t162 => ((snowlineref02_within.f a0_1 0 t162).bind fun t163 => (if t163 = true then ((snowlineref02_within.f a0_2 0 65536).bind fun t164 => (if t164 = true then (if a0_1 = 0 then (some true) else (some (a0_2 == 0))) else (some false))) else (some false)))) else (some false))) = some r := h
  clear h
  replace H := Option.bind_eq_some_iff.mp H
  obtain ⟨t161, A20, H⟩ := H
  replace H : (if t161 = true then ((snowlineref02_hold.f a0_0 a0_1 a0_2).bind fun t162 => ((snowlineref02_within.f a0_1 0 t162).bind fun t163 => (if t163 = true then ((snowlineref02_within.f a0_2 0 65536).bind fun t164 => (if t164 = true then (if a0_1 = 0 then (some true) else (some (a0_2 == 0))) else (some false))) else (some false)))) else (some false)) = some r := H
  have A2 := Aside0.mk A20
  clear A20
  by_cases c3 : t161 = true
  · subst c3
    have H1 : ((snowlineref02_hold.f a0_0 a0_1 a0_2).bind fun t162 => ((snowlineref02_within.f a0_1 0 t162).bind fun t163 => (if t163 = true then ((snowlineref02_within.f a0_2 0 65536).bind fun t164 => (if t164 = true then (if a0_1 = 0 then (some true) else (some (a0_2 == 0))) else (some false))) else (some false)))) = some r := by rw [if_pos rfl] at H; exact H
    clear H
    have H := H1
    clear H1
    replace H := Option.bind_eq_some_iff.mp H
    obtain ⟨t162, A40, H⟩ := H
    replace H : ((snowlineref02_within.f a0_1 0 t162).bind fun t163 => (if t163 = true then ((snowlineref02_within.f a0_2 0 65536).bind fun t164 => (if t164 = true then (if a0_1 = 0 then (some true) else (some (a0_2 == 0))) else (some false))) else (some false))) = some r := H
    have A4 := Aside0.mk A40
    clear A40
    replace H := Option.bind_eq_some_iff.mp H
    obtain ⟨t163, A50, H⟩ := H
    replace H : (if t163 = true then ((snowlineref02_within.f a0_2 0 65536).bind fun t164 => (if t164 = true then (if a0_1 = 0 then (some true) else (some (a0_2 == 0))) else (some false))) else (some false)) = some r := H
    have A5 := Aside0.mk A50
    clear A50
    by_cases c6 : t163 = true
    · subst c6
      have H1 : ((snowlineref02_within.f a0_2 0 65536).bind fun t164 => (if t164 = true then (if a0_1 = 0 then (some true) else (some (a0_2 == 0))) else (some false))) = some r := by rw [if_pos rfl] at H; exact H
      clear H
      have H := H1
      clear H1
      replace H := Option.bind_eq_some_iff.mp H
      obtain ⟨t164, A70, H⟩ := H
      replace H : (if t164 = true then (if a0_1 = 0 then (some true) else (some (a0_2 == 0))) else (some false)) = some r := H
      have A7 := Aside0.mk A70
      clear A70
      by_cases c8 : t164 = true
      · subst c8
        have H1 : (if a0_1 = 0 then (some true) else (some (a0_2 == 0))) = some r := by rw [if_pos rfl] at H; exact H
        clear H
        have H := H1
        clear H1
        by_cases c9 : a0_1 = 0
        · rw [if_pos c9] at H
          have c9b0 : (a0_1 == 0) = true := beq_iff_eq.mpr c9
          have c9b1 : (a0_1 != 0) = false := bne_eq_false_iff_eq.mpr c9
          clear c9
          obtain rfl := Option.some.inj H
          go_enter Tryz.func56, Tryz.ntmps56
          try go_wp2_with (first | ((with_reducible refine gate_dst (N := 1) rfl ?_); refine box_event ?hg (N := 1) ?hd (cs := #[.int .i64 a0_0, .int .i64 a0_1, .int .i64 a0_2]) (t := 47) ?hr ?_; (case hd => rfl); (case hg => rfl); (case hr => first | (go_simp; done) | (go_simp; rfl)); intro gb160 hg w10 hbox hb; have n0_ := Aside0.mk (below_step (by repeat (first | (with_reducible first | exact HB.out | apply below_alloc | apply pw_below_drewN | apply below_drew1) | exact HB.out)) hb); have n1_ := Aside0.mk (hbox); have n2_ := Aside0.mk ((by rw [hg]; exact (below_size (by repeat (first | (with_reducible first | exact HB.out | apply below_alloc | apply pw_below_drewN | apply below_drew1) | exact HB.out))) : w.heap.size ≤ gb160)); have n3_ := Aside0.mk ((by rw [hg]; exact (below_size (by repeat (first | (with_reducible first | exact HB.out | apply below_alloc | apply pw_below_drewN | apply below_drew1) | exact HB.out))) : w.heap.size ≤ gb160)); clear HB; have HB := n0_; have BK160 := n1_; have GW160 := n2_; have GE160 := n3_; clear n0_ n1_ n2_ n3_; clear hb hbox hg))
          have n0_ := Aside0.mk (blk_drew BK160.out)
          have n1_ := Aside0.mk (below_drew1 HB.out)
          clear BK160
          clear HB
          have BK160 := n0_
          have HB := n1_
          clear n0_ n1_
          refine start_ (n := 26) (S := fun w' => w'.cell? ⟨gb160, 0, none⟩ = some (.int .i64 a0_0) ∧ w'.cell? ⟨gb160, 1, none⟩ = some (.int .i64 a0_1) ∧ w'.cell? ⟨gb160, 2, none⟩ = some (.int .i64 a0_2)) (ds := []) #[false, false, false, false, false, false, false, false, false, false, false, false, false, false, false, false, false, false, false, false, false, false, false, false, false, false] (by kernel_rfl) rfl rfl ⟨(blk_cell BK160.out 0).trans rfl, (blk_cell BK160.out 1).trans rfl, (blk_cell BK160.out 2).trans rfl⟩ (fun hHeld => ?_); refine with_tabW snowlineref02_layer.tab1 snowlineref02_layer.bits1 (fun HT_ HW_ => ?_)
          generalize w10.drew = w11 at BK160 HB hHeld ⊢
          refine pure_ (i := 0) (N := some 3) (v := ?_) (a' := ?_) #[true, false, false, false, false, false, false, false, false, false, false, false, false, false, false, false, false, false, false, false, false, false, false, false, false, false] rfl rfl (any_of HT_.out (by kernel_rfl)) (fun _ _ _ h => h) (Or.inl ⟨by rfl, ?_⟩) ?_ ?_
          rotate_left
          · intro w'
            go_simp
            with_reducible rfl
          rotate_left
          · simp only [Act.put, List.setIfInBounds_toArray, List.set_cons_zero, List.set_cons_succ, i64_w, i32_w]
            rfl
          refine take_ (i := 1) (N := some 4) (v := ?_) (a' := ?_) #[true, true, false, false, false, false, false, false, false, false, false, false, false, false, false, false, false, false, false, false, false, false, false, false, false, false] rfl rfl (take_ofW HT_.out HW_.out (by kernel_rfl)) (fun _ _ _ h => h) (Or.inl ⟨by rfl, ?_⟩) hHeld ?_ ?_
          rotate_left
          · rintro w' ⟨s0, s1, s2⟩
            go_simp
            with_reducible rfl
          rotate_left
          · simp only [Act.put, List.setIfInBounds_toArray, List.set_cons_zero, List.set_cons_succ, i64_w, i32_w]
            rfl
          refine one_ (i := 2) (N := some 5) #[true, true, true, false, false, false, false, false, false, false, false, false, false, false, false, false, false, false, false, false, false, false, false, false, false, false] rfl rfl (one_of HT_.out (by kernel_rfl)) (by decide) (fun K hK => ?_)
          refine goes_ Tryz.func49 (by kernel_rfl) rfl #[.int .i64 a0_0, .int .i64 1, .int .i64 65536] (by rfl) rfl rfl (by (try simp only [List.map_toArray, List.map_cons, List.map_nil]); first | done | rfl | (simp only [List.length_drop, List.length_take]; rfl)) ?_
          with_reducible refine (snowlineref02_within.calls a0_0 1 65536 true _ A2.out).mono ?_
          rintro e w' ⟨rfl, ⟨nd, rfl⟩⟩
          refine ⟨_, rfl, ?_⟩
          refine hK.out _ _ ⟨(blk_cell BK160.out 0).trans rfl, (blk_cell BK160.out 1).trans rfl, (blk_cell BK160.out 2).trans rfl⟩ (fun hHeld => ?_)
          clear hK K
          refine norm_ (a' := ?_) ?_ ?_
          rotate_left
          · show Act.put _ (some 5) _ = _
            simp only [Act.put, List.setIfInBounds_toArray, List.set_cons_zero, List.set_cons_succ, i64_w, i32_w]
            rfl
          refine pure_ (i := 3) (N := some 6) (v := ?_) (a' := ?_) #[true, true, true, true, false, false, false, false, false, false, false, false, false, false, false, false, false, false, false, false, false, false, false, false, false, false] rfl rfl (any_of HT_.out (by kernel_rfl)) (fun _ _ _ h => h) (Or.inl ⟨by rfl, ?_⟩) ?_ ?_
          rotate_left
          · intro w'
            go_simp
            with_reducible rfl
          rotate_left
          · simp only [Act.put, List.setIfInBounds_toArray, List.set_cons_zero, List.set_cons_succ, i64_w, i32_w]
            rfl
          refine pure_ (i := 4) (N := some 7) (v := ?_) (a' := ?_) #[true, true, true, true, true, false, false, false, false, false, false, false, false, false, false, false, false, false, false, false, false, false, false, false, false, false] rfl rfl (any_of HT_.out (by kernel_rfl)) (fun _ _ _ h => h) (Or.inl ⟨by rfl, ?_⟩) ?_ ?_
          rotate_left
          · intro w'
            go_simp
            with_reducible rfl
          rotate_left
          · simp only [Act.put, List.setIfInBounds_toArray, List.set_cons_zero, List.set_cons_succ, i64_w, i32_w]
            rfl
          refine take_ (i := 5) (N := some 8) (v := ?_) (a' := ?_) #[true, true, true, true, true, true, false, false, false, false, false, false, false, false, false, false, false, false, false, false, false, false, false, false, false, false] rfl rfl (take_ofW HT_.out HW_.out (by kernel_rfl)) (fun _ _ _ h => h) (Or.inl ⟨by rfl, ?_⟩) hHeld ?_ ?_
          rotate_left
          · rintro w' ⟨s0, s1, s2⟩
            go_simp
            with_reducible rfl
          rotate_left
          · simp only [Act.put, List.setIfInBounds_toArray, List.set_cons_zero, List.set_cons_succ, i64_w, i32_w]
            rfl
          refine take_ (i := 6) (N := some 9) (v := ?_) (a' := ?_) #[true, true, true, true, true, true, true, false, false, false, false, false, false, false, false, false, false, false, false, false, false, false, false, false, false, false] rfl rfl (take_ofW HT_.out HW_.out (by kernel_rfl)) (fun _ _ _ h => h) (Or.inl ⟨by rfl, ?_⟩) hHeld ?_ ?_
          rotate_left
          · rintro w' ⟨s0, s1, s2⟩
            go_simp
            with_reducible rfl
          rotate_left
          · simp only [Act.put, List.setIfInBounds_toArray, List.set_cons_zero, List.set_cons_succ, i64_w, i32_w]
            rfl
          refine one_ (i := 7) (N := some 10) #[true, true, true, true, true, true, true, true, false, false, false, false, false, false, false, false, false, false, false, false, false, false, false, false, false, false] rfl rfl (one_of HT_.out (by kernel_rfl)) (by decide) (fun K hK => ?_)
          refine goes_ Tryz.func73 (by kernel_rfl) rfl #[.agg #[.int .i64 a0_0, .int .i64 a0_1, .int .i64 a0_2]] (by rfl) rfl rfl (by (try simp only [List.map_toArray, List.map_cons, List.map_nil]); first | done | rfl | (simp only [List.length_drop, List.length_take]; rfl)) ?_
          with_reducible refine (snowlineref02_hold.calls a0_0 a0_1 a0_2 t162 _ A4.out).mono ?_
          rintro e w12 ⟨rfl, hb⟩
          refine ⟨_, rfl, ?_⟩
          have n0_ := Aside0.mk (blk_below (g := gb160) (o := .cells #[.int .i64 a0_0, .int .i64 a0_1, .int .i64 a0_2] 47 (0, 0)) (by (with_reducible repeat (first | refine blk_drewN ?_ _ | refine blk_drew ?_ | refine blk_alloc ?_ _)); exact BK160.out) hb)
          have n1_ := Aside0.mk (below_step (by repeat (first | (with_reducible first | exact HB.out | apply below_alloc | apply pw_below_drewN | apply below_drew1 | refine below_set ?_ GE160.out) | exact HB.out)) hb)
          clear BK160
          clear HB
          have BK160 := n0_
          have HB := n1_
          clear n0_ n1_
          (try clear hb)
          (try clear hb2)
          (try clear hk)
          (try clear hi)
          refine hK.out _ _ ⟨(blk_cell BK160.out 0).trans rfl, (blk_cell BK160.out 1).trans rfl, (blk_cell BK160.out 2).trans rfl⟩ (fun hHeld => ?_)
          clear hK K
          refine norm_ (a' := ?_) ?_ ?_
          rotate_left
          · show Act.put _ (some 10) _ = _
            simp only [Act.put, List.setIfInBounds_toArray, List.set_cons_zero, List.set_cons_succ, i64_w, i32_w]
            rfl
          refine one_ (i := 8) (N := some 11) #[true, true, true, true, true, true, true, true, true, false, false, false, false, false, false, false, false, false, false, false, false, false, false, false, false, false] rfl rfl (one_of HT_.out (by kernel_rfl)) (by decide) (fun K hK => ?_)
          refine goes_ Tryz.func49 (by kernel_rfl) rfl #[.int .i64 a0_1, .int .i64 0, .int .i64 t162] (by rfl) rfl rfl (by (try simp only [List.map_toArray, List.map_cons, List.map_nil]); first | done | rfl | (simp only [List.length_drop, List.length_take]; rfl)) ?_
          with_reducible refine (snowlineref02_within.calls a0_1 0 t162 true _ A5.out).mono ?_
          rintro e w' ⟨rfl, ⟨nd, rfl⟩⟩
          refine ⟨_, rfl, ?_⟩
          refine hK.out _ _ ⟨(blk_cell BK160.out 0).trans rfl, (blk_cell BK160.out 1).trans rfl, (blk_cell BK160.out 2).trans rfl⟩ (fun hHeld => ?_)
          clear hK K
          refine norm_ (a' := ?_) ?_ ?_
          rotate_left
          · show Act.put _ (some 11) _ = _
            simp only [Act.put, List.setIfInBounds_toArray, List.set_cons_zero, List.set_cons_succ, i64_w, i32_w]
            rfl
          refine pure_ (i := 9) (N := some 12) (v := ?_) (a' := ?_) #[true, true, true, true, true, true, true, true, true, true, false, false, false, false, false, false, false, false, false, false, false, false, false, false, false, false] rfl rfl (any_of HT_.out (by kernel_rfl)) (fun _ _ _ h => h) (Or.inl ⟨by rfl, ?_⟩) ?_ ?_
          rotate_left
          · intro w'
            go_simp
            with_reducible rfl
          rotate_left
          · simp only [Act.put, List.setIfInBounds_toArray, List.set_cons_zero, List.set_cons_succ, i64_w, i32_w]
            rfl
          refine pure_ (i := 10) (N := some 13) (v := ?_) (a' := ?_) #[true, true, true, true, true, true, true, true, true, true, true, false, false, false, false, false, false, false, false, false, false, false, false, false, false, false] rfl rfl (any_of HT_.out (by kernel_rfl)) (fun _ _ _ h => h) (Or.inl ⟨by rfl, ?_⟩) ?_ ?_
          rotate_left
          · intro w'
            go_simp
            with_reducible rfl
          rotate_left
          · simp only [Act.put, List.setIfInBounds_toArray, List.set_cons_zero, List.set_cons_succ, i64_w, i32_w]
            rfl
          refine pure_ (i := 11) (N := some 14) (v := ?_) (a' := ?_) #[true, true, true, true, true, true, true, true, true, true, true, true, false, false, false, false, false, false, false, false, false, false, false, false, false, false] rfl rfl (any_of HT_.out (by kernel_rfl)) (fun _ _ _ h => h) (Or.inl ⟨by rfl, ?_⟩) ?_ ?_
          rotate_left
          · intro w'
            go_simp
            with_reducible rfl
          rotate_left
          · simp only [Act.put, List.setIfInBounds_toArray, List.set_cons_zero, List.set_cons_succ, i64_w, i32_w]
            rfl
          refine take_ (i := 12) (N := some 15) (v := ?_) (a' := ?_) #[true, true, true, true, true, true, true, true, true, true, true, true, true, false, false, false, false, false, false, false, false, false, false, false, false, false] rfl rfl (take_ofW HT_.out HW_.out (by kernel_rfl)) (fun _ _ _ h => h) (Or.inl ⟨by rfl, ?_⟩) hHeld ?_ ?_
          rotate_left
          · rintro w' ⟨s0, s1, s2⟩
            go_simp
            with_reducible rfl
          rotate_left
          · simp only [Act.put, List.setIfInBounds_toArray, List.set_cons_zero, List.set_cons_succ, i64_w, i32_w]
            rfl
          refine one_ (i := 13) (N := some 16) #[true, true, true, true, true, true, true, true, true, true, true, true, true, true, false, false, false, false, false, false, false, false, false, false, false, false] rfl rfl (one_of HT_.out (by kernel_rfl)) (by decide) (fun K hK => ?_)
          refine goes_ Tryz.func49 (by kernel_rfl) rfl #[.int .i64 a0_2, .int .i64 0, .int .i64 65536] (by rfl) rfl rfl (by (try simp only [List.map_toArray, List.map_cons, List.map_nil]); first | done | rfl | (simp only [List.length_drop, List.length_take]; rfl)) ?_
          with_reducible refine (snowlineref02_within.calls a0_2 0 65536 true _ A7.out).mono ?_
          rintro e w' ⟨rfl, ⟨nd, rfl⟩⟩
          refine ⟨_, rfl, ?_⟩
          refine hK.out _ _ ⟨(blk_cell BK160.out 0).trans rfl, (blk_cell BK160.out 1).trans rfl, (blk_cell BK160.out 2).trans rfl⟩ (fun hHeld => ?_)
          clear hK K
          refine norm_ (a' := ?_) ?_ ?_
          rotate_left
          · show Act.put _ (some 16) _ = _
            simp only [Act.put, List.setIfInBounds_toArray, List.set_cons_zero, List.set_cons_succ, i64_w, i32_w]
            rfl
          refine pure_ (i := 14) (N := some 17) (v := ?_) (a' := ?_) #[true, true, true, true, true, true, true, true, true, true, true, true, true, true, true, false, false, false, false, false, false, false, false, false, false, false] rfl rfl (any_of HT_.out (by kernel_rfl)) (fun _ _ _ h => h) (Or.inl ⟨by rfl, ?_⟩) ?_ ?_
          rotate_left
          · intro w'
            go_simp
            with_reducible rfl
          rotate_left
          · simp only [Act.put, List.setIfInBounds_toArray, List.set_cons_zero, List.set_cons_succ, i64_w, i32_w]
            rfl
          refine pure_ (i := 15) (N := some 18) (v := ?_) (a' := ?_) #[true, true, true, true, true, true, true, true, true, true, true, true, true, true, true, true, false, false, false, false, false, false, false, false, false, false] rfl rfl (any_of HT_.out (by kernel_rfl)) (fun _ _ _ h => h) (Or.inl ⟨by rfl, ?_⟩) ?_ ?_
          rotate_left
          · intro w'
            go_simp
            with_reducible rfl
          rotate_left
          · simp only [Act.put, List.setIfInBounds_toArray, List.set_cons_zero, List.set_cons_succ, i64_w, i32_w]
            rfl
          refine pure_ (i := 16) (N := some 19) (v := ?_) (a' := ?_) #[true, true, true, true, true, true, true, true, true, true, true, true, true, true, true, true, true, false, false, false, false, false, false, false, false, false] rfl rfl (any_of HT_.out (by kernel_rfl)) (fun _ _ _ h => h) (Or.inl ⟨by rfl, ?_⟩) ?_ ?_
          rotate_left
          · intro w'
            go_simp
            with_reducible rfl
          rotate_left
          · simp only [Act.put, List.setIfInBounds_toArray, List.set_cons_zero, List.set_cons_succ, i64_w, i32_w]
            rfl
          refine take_ (i := 17) (N := some 20) (v := ?_) (a' := ?_) #[true, true, true, true, true, true, true, true, true, true, true, true, true, true, true, true, true, true, false, false, false, false, false, false, false, false] rfl rfl (take_ofW HT_.out HW_.out (by kernel_rfl)) (fun _ _ _ h => h) (Or.inl ⟨by rfl, ?_⟩) hHeld ?_ ?_
          rotate_left
          · rintro w' ⟨s0, s1, s2⟩
            go_simp
            with_reducible rfl
          rotate_left
          · simp only [Act.put, List.setIfInBounds_toArray, List.set_cons_zero, List.set_cons_succ, i64_w, i32_w]
            rfl
          refine pure_ (i := 18) (N := some 21) (v := ?_) (a' := ?_) #[true, true, true, true, true, true, true, true, true, true, true, true, true, true, true, true, true, true, true, false, false, false, false, false, false, false] rfl rfl (any_of HT_.out (by kernel_rfl)) (fun _ _ _ h => h) (Or.inl ⟨by rfl, ?_⟩) ?_ ?_
          rotate_left
          · intro w'
            go_simp
            with_reducible rfl
          rotate_left
          · simp only [Act.put, List.setIfInBounds_toArray, List.set_cons_zero, List.set_cons_succ, i64_w, i32_w]
            rfl
          refine pure_ (i := 19) (N := some 22) (v := ?_) (a' := ?_) #[true, true, true, true, true, true, true, true, true, true, true, true, true, true, true, true, true, true, true, true, false, false, false, false, false, false] rfl rfl (any_of HT_.out (by kernel_rfl)) (fun _ _ _ h => h) (Or.inl ⟨by rfl, ?_⟩) ?_ ?_
          rotate_left
          · intro w'
            go_simp
            with_reducible rfl
          rotate_left
          · simp only [Act.put, List.setIfInBounds_toArray, List.set_cons_zero, List.set_cons_succ, i64_w, i32_w]
            rfl
          refine pure_ (i := 20) (N := some 23) (v := undef) (a' := ?_) #[true, true, true, true, true, true, true, true, true, true, true, true, true, true, true, true, true, true, true, true, true, false, false, false, false, false] rfl rfl (any_of HT_.out (by kernel_rfl)) (fun _ _ _ h => h) (Or.inr ⟨by rfl, rfl⟩) ?_ ?_
          rotate_left
          · simp only [Act.put, List.setIfInBounds_toArray, List.set_cons_zero, List.set_cons_succ, i64_w, i32_w]
            rfl
          refine pure_ (i := 21) (N := some 24) (v := undef) (a' := ?_) #[true, true, true, true, true, true, true, true, true, true, true, true, true, true, true, true, true, true, true, true, true, true, false, false, false, false] rfl rfl (any_of HT_.out (by kernel_rfl)) (fun _ _ _ h => h) (Or.inr ⟨by rfl, rfl⟩) ?_ ?_
          rotate_left
          · simp only [Act.put, List.setIfInBounds_toArray, List.set_cons_zero, List.set_cons_succ, i64_w, i32_w]
            rfl
          refine pure_ (i := 22) (N := some 25) (v := undef) (a' := ?_) #[true, true, true, true, true, true, true, true, true, true, true, true, true, true, true, true, true, true, true, true, true, true, true, false, false, false] rfl rfl (any_of HT_.out (by kernel_rfl)) (fun _ _ _ h => h) (Or.inr ⟨by rfl, rfl⟩) ?_ ?_
          rotate_left
          · simp only [Act.put, List.setIfInBounds_toArray, List.set_cons_zero, List.set_cons_succ, i64_w, i32_w]
            rfl
          refine pure_ (i := 23) (N := some 26) (v := ?_) (a' := ?_) #[true, true, true, true, true, true, true, true, true, true, true, true, true, true, true, true, true, true, true, true, true, true, true, true, false, false] rfl rfl (any_of HT_.out (by kernel_rfl)) (fun _ _ _ h => h) (Or.inl ⟨by rfl, ?_⟩) ?_ ?_
          rotate_left
          · intro w'
            go_simp
            with_reducible rfl
          rotate_left
          · simp only [Act.put, List.setIfInBounds_toArray, List.set_cons_zero, List.set_cons_succ, i64_w, i32_w]
            rfl
          refine pure_ (i := 24) (N := some 27) (v := ?_) (a' := ?_) #[true, true, true, true, true, true, true, true, true, true, true, true, true, true, true, true, true, true, true, true, true, true, true, true, true, false] rfl rfl (any_of HT_.out (by kernel_rfl)) (fun _ _ _ h => h) (Or.inl ⟨by rfl, ?_⟩) ?_ ?_
          rotate_left
          · intro w'
            go_simp
            with_reducible rfl
          rotate_left
          · simp only [Act.put, List.setIfInBounds_toArray, List.set_cons_zero, List.set_cons_succ, i64_w, i32_w]
            rfl
          refine pure_ (i := 25) (N := some 2) (v := ?_) (a' := ?_) #[true, true, true, true, true, true, true, true, true, true, true, true, true, true, true, true, true, true, true, true, true, true, true, true, true, true] rfl rfl (any_of HT_.out (by kernel_rfl)) (fun _ _ _ h => h) (Or.inl ⟨by rfl, ?_⟩) ?_ ?_
          rotate_left
          · intro w'
            go_simp
            with_reducible rfl
          rotate_left
          · simp only [Act.put, List.setIfInBounds_toArray, List.set_cons_zero, List.set_cons_succ, i64_w, i32_w]
            rfl
          refine done_ (done_of HT_.out (by kernel_rfl)) ?_
          try go_wp2
          go_ret
          exact ⟨by first | rfl | (simp [errW_none, errW_some] <;> rfl) | (simp [*, errW_none, errW_some] <;> rfl), by repeat (first | (with_reducible first | exact HB.out | apply below_alloc | apply pw_below_drewN | apply below_drew1 | refine below_set ?_ GE160.out) | exact HB.out)⟩
        · rw [if_neg c9] at H
          have c9b0 : (a0_1 == 0) = false := beq_eq_false_iff_ne.mpr c9
          have c9b1 : (a0_1 != 0) = true := bne_iff_ne.mpr c9
          obtain rfl := Option.some.inj H
          go_enter Tryz.func56, Tryz.ntmps56
          try go_wp2_with (first | ((with_reducible refine gate_dst (N := 1) rfl ?_); refine box_event ?hg (N := 1) ?hd (cs := #[.int .i64 a0_0, .int .i64 a0_1, .int .i64 a0_2]) (t := 47) ?hr ?_; (case hd => rfl); (case hg => rfl); (case hr => first | (go_simp; done) | (go_simp; rfl)); intro gb160 hg w13 hbox hb; have n0_ := Aside0.mk (below_step (by repeat (first | (with_reducible first | exact HB.out | apply below_alloc | apply pw_below_drewN | apply below_drew1) | exact HB.out)) hb); have n1_ := Aside0.mk (hbox); have n2_ := Aside0.mk ((by rw [hg]; exact (below_size (by repeat (first | (with_reducible first | exact HB.out | apply below_alloc | apply pw_below_drewN | apply below_drew1) | exact HB.out))) : w.heap.size ≤ gb160)); have n3_ := Aside0.mk ((by rw [hg]; exact (below_size (by repeat (first | (with_reducible first | exact HB.out | apply below_alloc | apply pw_below_drewN | apply below_drew1) | exact HB.out))) : w.heap.size ≤ gb160)); clear HB; have HB := n0_; have BK160 := n1_; have GW160 := n2_; have GE160 := n3_; clear n0_ n1_ n2_ n3_; clear hb hbox hg))
          have n0_ := Aside0.mk (blk_drew BK160.out)
          have n1_ := Aside0.mk (below_drew1 HB.out)
          clear BK160
          clear HB
          have BK160 := n0_
          have HB := n1_
          clear n0_ n1_
          refine start_ (n := 26) (S := fun w' => w'.cell? ⟨gb160, 0, none⟩ = some (.int .i64 a0_0) ∧ w'.cell? ⟨gb160, 1, none⟩ = some (.int .i64 a0_1) ∧ w'.cell? ⟨gb160, 2, none⟩ = some (.int .i64 a0_2)) (ds := []) #[false, false, false, false, false, false, false, false, false, false, false, false, false, false, false, false, false, false, false, false, false, false, false, false, false, false] (by kernel_rfl) rfl rfl ⟨(blk_cell BK160.out 0).trans rfl, (blk_cell BK160.out 1).trans rfl, (blk_cell BK160.out 2).trans rfl⟩ (fun hHeld => ?_); refine with_tabW snowlineref02_layer.tab1 snowlineref02_layer.bits1 (fun HT_ HW_ => ?_)
          generalize w13.drew = w14 at BK160 HB hHeld ⊢
          refine pure_ (i := 0) (N := some 3) (v := ?_) (a' := ?_) #[true, false, false, false, false, false, false, false, false, false, false, false, false, false, false, false, false, false, false, false, false, false, false, false, false, false] rfl rfl (any_of HT_.out (by kernel_rfl)) (fun _ _ _ h => h) (Or.inl ⟨by rfl, ?_⟩) ?_ ?_
          rotate_left
          · intro w'
            go_simp
            with_reducible rfl
          rotate_left
          · simp only [Act.put, List.setIfInBounds_toArray, List.set_cons_zero, List.set_cons_succ, i64_w, i32_w]
            rfl
          refine take_ (i := 1) (N := some 4) (v := ?_) (a' := ?_) #[true, true, false, false, false, false, false, false, false, false, false, false, false, false, false, false, false, false, false, false, false, false, false, false, false, false] rfl rfl (take_ofW HT_.out HW_.out (by kernel_rfl)) (fun _ _ _ h => h) (Or.inl ⟨by rfl, ?_⟩) hHeld ?_ ?_
          rotate_left
          · rintro w' ⟨s0, s1, s2⟩
            go_simp
            with_reducible rfl
          rotate_left
          · simp only [Act.put, List.setIfInBounds_toArray, List.set_cons_zero, List.set_cons_succ, i64_w, i32_w]
            rfl
          refine one_ (i := 2) (N := some 5) #[true, true, true, false, false, false, false, false, false, false, false, false, false, false, false, false, false, false, false, false, false, false, false, false, false, false] rfl rfl (one_of HT_.out (by kernel_rfl)) (by decide) (fun K hK => ?_)
          refine goes_ Tryz.func49 (by kernel_rfl) rfl #[.int .i64 a0_0, .int .i64 1, .int .i64 65536] (by rfl) rfl rfl (by (try simp only [List.map_toArray, List.map_cons, List.map_nil]); first | done | rfl | (simp only [List.length_drop, List.length_take]; rfl)) ?_
          with_reducible refine (snowlineref02_within.calls a0_0 1 65536 true _ A2.out).mono ?_
          rintro e w' ⟨rfl, ⟨nd, rfl⟩⟩
          refine ⟨_, rfl, ?_⟩
          refine hK.out _ _ ⟨(blk_cell BK160.out 0).trans rfl, (blk_cell BK160.out 1).trans rfl, (blk_cell BK160.out 2).trans rfl⟩ (fun hHeld => ?_)
          clear hK K
          refine norm_ (a' := ?_) ?_ ?_
          rotate_left
          · show Act.put _ (some 5) _ = _
            simp only [Act.put, List.setIfInBounds_toArray, List.set_cons_zero, List.set_cons_succ, i64_w, i32_w]
            rfl
          refine pure_ (i := 3) (N := some 6) (v := ?_) (a' := ?_) #[true, true, true, true, false, false, false, false, false, false, false, false, false, false, false, false, false, false, false, false, false, false, false, false, false, false] rfl rfl (any_of HT_.out (by kernel_rfl)) (fun _ _ _ h => h) (Or.inl ⟨by rfl, ?_⟩) ?_ ?_
          rotate_left
          · intro w'
            go_simp
            with_reducible rfl
          rotate_left
          · simp only [Act.put, List.setIfInBounds_toArray, List.set_cons_zero, List.set_cons_succ, i64_w, i32_w]
            rfl
          refine pure_ (i := 4) (N := some 7) (v := ?_) (a' := ?_) #[true, true, true, true, true, false, false, false, false, false, false, false, false, false, false, false, false, false, false, false, false, false, false, false, false, false] rfl rfl (any_of HT_.out (by kernel_rfl)) (fun _ _ _ h => h) (Or.inl ⟨by rfl, ?_⟩) ?_ ?_
          rotate_left
          · intro w'
            go_simp
            with_reducible rfl
          rotate_left
          · simp only [Act.put, List.setIfInBounds_toArray, List.set_cons_zero, List.set_cons_succ, i64_w, i32_w]
            rfl
          refine take_ (i := 5) (N := some 8) (v := ?_) (a' := ?_) #[true, true, true, true, true, true, false, false, false, false, false, false, false, false, false, false, false, false, false, false, false, false, false, false, false, false] rfl rfl (take_ofW HT_.out HW_.out (by kernel_rfl)) (fun _ _ _ h => h) (Or.inl ⟨by rfl, ?_⟩) hHeld ?_ ?_
          rotate_left
          · rintro w' ⟨s0, s1, s2⟩
            go_simp
            with_reducible rfl
          rotate_left
          · simp only [Act.put, List.setIfInBounds_toArray, List.set_cons_zero, List.set_cons_succ, i64_w, i32_w]
            rfl
          refine take_ (i := 6) (N := some 9) (v := ?_) (a' := ?_) #[true, true, true, true, true, true, true, false, false, false, false, false, false, false, false, false, false, false, false, false, false, false, false, false, false, false] rfl rfl (take_ofW HT_.out HW_.out (by kernel_rfl)) (fun _ _ _ h => h) (Or.inl ⟨by rfl, ?_⟩) hHeld ?_ ?_
          rotate_left
          · rintro w' ⟨s0, s1, s2⟩
            go_simp
            with_reducible rfl
          rotate_left
          · simp only [Act.put, List.setIfInBounds_toArray, List.set_cons_zero, List.set_cons_succ, i64_w, i32_w]
            rfl
          refine one_ (i := 7) (N := some 10) #[true, true, true, true, true, true, true, true, false, false, false, false, false, false, false, false, false, false, false, false, false, false, false, false, false, false] rfl rfl (one_of HT_.out (by kernel_rfl)) (by decide) (fun K hK => ?_)
          refine goes_ Tryz.func73 (by kernel_rfl) rfl #[.agg #[.int .i64 a0_0, .int .i64 a0_1, .int .i64 a0_2]] (by rfl) rfl rfl (by (try simp only [List.map_toArray, List.map_cons, List.map_nil]); first | done | rfl | (simp only [List.length_drop, List.length_take]; rfl)) ?_
          with_reducible refine (snowlineref02_hold.calls a0_0 a0_1 a0_2 t162 _ A4.out).mono ?_
          rintro e w15 ⟨rfl, hb⟩
          refine ⟨_, rfl, ?_⟩
          have n0_ := Aside0.mk (blk_below (g := gb160) (o := .cells #[.int .i64 a0_0, .int .i64 a0_1, .int .i64 a0_2] 47 (0, 0)) (by (with_reducible repeat (first | refine blk_drewN ?_ _ | refine blk_drew ?_ | refine blk_alloc ?_ _)); exact BK160.out) hb)
          have n1_ := Aside0.mk (below_step (by repeat (first | (with_reducible first | exact HB.out | apply below_alloc | apply pw_below_drewN | apply below_drew1 | refine below_set ?_ GE160.out) | exact HB.out)) hb)
          clear BK160
          clear HB
          have BK160 := n0_
          have HB := n1_
          clear n0_ n1_
          (try clear hb)
          (try clear hb2)
          (try clear hk)
          (try clear hi)
          refine hK.out _ _ ⟨(blk_cell BK160.out 0).trans rfl, (blk_cell BK160.out 1).trans rfl, (blk_cell BK160.out 2).trans rfl⟩ (fun hHeld => ?_)
          clear hK K
          refine norm_ (a' := ?_) ?_ ?_
          rotate_left
          · show Act.put _ (some 10) _ = _
            simp only [Act.put, List.setIfInBounds_toArray, List.set_cons_zero, List.set_cons_succ, i64_w, i32_w]
            rfl
          refine one_ (i := 8) (N := some 11) #[true, true, true, true, true, true, true, true, true, false, false, false, false, false, false, false, false, false, false, false, false, false, false, false, false, false] rfl rfl (one_of HT_.out (by kernel_rfl)) (by decide) (fun K hK => ?_)
          refine goes_ Tryz.func49 (by kernel_rfl) rfl #[.int .i64 a0_1, .int .i64 0, .int .i64 t162] (by rfl) rfl rfl (by (try simp only [List.map_toArray, List.map_cons, List.map_nil]); first | done | rfl | (simp only [List.length_drop, List.length_take]; rfl)) ?_
          with_reducible refine (snowlineref02_within.calls a0_1 0 t162 true _ A5.out).mono ?_
          rintro e w' ⟨rfl, ⟨nd, rfl⟩⟩
          refine ⟨_, rfl, ?_⟩
          refine hK.out _ _ ⟨(blk_cell BK160.out 0).trans rfl, (blk_cell BK160.out 1).trans rfl, (blk_cell BK160.out 2).trans rfl⟩ (fun hHeld => ?_)
          clear hK K
          refine norm_ (a' := ?_) ?_ ?_
          rotate_left
          · show Act.put _ (some 11) _ = _
            simp only [Act.put, List.setIfInBounds_toArray, List.set_cons_zero, List.set_cons_succ, i64_w, i32_w]
            rfl
          refine pure_ (i := 9) (N := some 12) (v := ?_) (a' := ?_) #[true, true, true, true, true, true, true, true, true, true, false, false, false, false, false, false, false, false, false, false, false, false, false, false, false, false] rfl rfl (any_of HT_.out (by kernel_rfl)) (fun _ _ _ h => h) (Or.inl ⟨by rfl, ?_⟩) ?_ ?_
          rotate_left
          · intro w'
            go_simp
            with_reducible rfl
          rotate_left
          · simp only [Act.put, List.setIfInBounds_toArray, List.set_cons_zero, List.set_cons_succ, i64_w, i32_w]
            rfl
          refine pure_ (i := 10) (N := some 13) (v := ?_) (a' := ?_) #[true, true, true, true, true, true, true, true, true, true, true, false, false, false, false, false, false, false, false, false, false, false, false, false, false, false] rfl rfl (any_of HT_.out (by kernel_rfl)) (fun _ _ _ h => h) (Or.inl ⟨by rfl, ?_⟩) ?_ ?_
          rotate_left
          · intro w'
            go_simp
            with_reducible rfl
          rotate_left
          · simp only [Act.put, List.setIfInBounds_toArray, List.set_cons_zero, List.set_cons_succ, i64_w, i32_w]
            rfl
          refine pure_ (i := 11) (N := some 14) (v := ?_) (a' := ?_) #[true, true, true, true, true, true, true, true, true, true, true, true, false, false, false, false, false, false, false, false, false, false, false, false, false, false] rfl rfl (any_of HT_.out (by kernel_rfl)) (fun _ _ _ h => h) (Or.inl ⟨by rfl, ?_⟩) ?_ ?_
          rotate_left
          · intro w'
            go_simp
            with_reducible rfl
          rotate_left
          · simp only [Act.put, List.setIfInBounds_toArray, List.set_cons_zero, List.set_cons_succ, i64_w, i32_w]
            rfl
          refine take_ (i := 12) (N := some 15) (v := ?_) (a' := ?_) #[true, true, true, true, true, true, true, true, true, true, true, true, true, false, false, false, false, false, false, false, false, false, false, false, false, false] rfl rfl (take_ofW HT_.out HW_.out (by kernel_rfl)) (fun _ _ _ h => h) (Or.inl ⟨by rfl, ?_⟩) hHeld ?_ ?_
          rotate_left
          · rintro w' ⟨s0, s1, s2⟩
            go_simp
            with_reducible rfl
          rotate_left
          · simp only [Act.put, List.setIfInBounds_toArray, List.set_cons_zero, List.set_cons_succ, i64_w, i32_w]
            rfl
          refine one_ (i := 13) (N := some 16) #[true, true, true, true, true, true, true, true, true, true, true, true, true, true, false, false, false, false, false, false, false, false, false, false, false, false] rfl rfl (one_of HT_.out (by kernel_rfl)) (by decide) (fun K hK => ?_)
          refine goes_ Tryz.func49 (by kernel_rfl) rfl #[.int .i64 a0_2, .int .i64 0, .int .i64 65536] (by rfl) rfl rfl (by (try simp only [List.map_toArray, List.map_cons, List.map_nil]); first | done | rfl | (simp only [List.length_drop, List.length_take]; rfl)) ?_
          with_reducible refine (snowlineref02_within.calls a0_2 0 65536 true _ A7.out).mono ?_
          rintro e w' ⟨rfl, ⟨nd, rfl⟩⟩
          refine ⟨_, rfl, ?_⟩
          refine hK.out _ _ ⟨(blk_cell BK160.out 0).trans rfl, (blk_cell BK160.out 1).trans rfl, (blk_cell BK160.out 2).trans rfl⟩ (fun hHeld => ?_)
          clear hK K
          refine norm_ (a' := ?_) ?_ ?_
          rotate_left
          · show Act.put _ (some 16) _ = _
            simp only [Act.put, List.setIfInBounds_toArray, List.set_cons_zero, List.set_cons_succ, i64_w, i32_w]
            rfl
          refine pure_ (i := 14) (N := some 17) (v := ?_) (a' := ?_) #[true, true, true, true, true, true, true, true, true, true, true, true, true, true, true, false, false, false, false, false, false, false, false, false, false, false] rfl rfl (any_of HT_.out (by kernel_rfl)) (fun _ _ _ h => h) (Or.inl ⟨by rfl, ?_⟩) ?_ ?_
          rotate_left
          · intro w'
            go_simp
            with_reducible rfl
          rotate_left
          · simp only [Act.put, List.setIfInBounds_toArray, List.set_cons_zero, List.set_cons_succ, i64_w, i32_w]
            rfl
          refine pure_ (i := 15) (N := some 18) (v := ?_) (a' := ?_) #[true, true, true, true, true, true, true, true, true, true, true, true, true, true, true, true, false, false, false, false, false, false, false, false, false, false] rfl rfl (any_of HT_.out (by kernel_rfl)) (fun _ _ _ h => h) (Or.inl ⟨by rfl, ?_⟩) ?_ ?_
          rotate_left
          · intro w'
            go_simp
            with_reducible rfl
          rotate_left
          · simp only [Act.put, List.setIfInBounds_toArray, List.set_cons_zero, List.set_cons_succ, i64_w, i32_w]
            rfl
          refine pure_ (i := 16) (N := some 19) (v := ?_) (a' := ?_) #[true, true, true, true, true, true, true, true, true, true, true, true, true, true, true, true, true, false, false, false, false, false, false, false, false, false] rfl rfl (any_of HT_.out (by kernel_rfl)) (fun _ _ _ h => h) (Or.inl ⟨by rfl, ?_⟩) ?_ ?_
          rotate_left
          · intro w'
            go_simp
            with_reducible rfl
          rotate_left
          · simp only [Act.put, List.setIfInBounds_toArray, List.set_cons_zero, List.set_cons_succ, i64_w, i32_w]
            rfl
          refine take_ (i := 17) (N := some 20) (v := ?_) (a' := ?_) #[true, true, true, true, true, true, true, true, true, true, true, true, true, true, true, true, true, true, false, false, false, false, false, false, false, false] rfl rfl (take_ofW HT_.out HW_.out (by kernel_rfl)) (fun _ _ _ h => h) (Or.inl ⟨by rfl, ?_⟩) hHeld ?_ ?_
          rotate_left
          · rintro w' ⟨s0, s1, s2⟩
            go_simp
            with_reducible rfl
          rotate_left
          · simp only [Act.put, List.setIfInBounds_toArray, List.set_cons_zero, List.set_cons_succ, i64_w, i32_w]
            rfl
          refine pure_ (i := 18) (N := some 21) (v := ?_) (a' := ?_) #[true, true, true, true, true, true, true, true, true, true, true, true, true, true, true, true, true, true, true, false, false, false, false, false, false, false] rfl rfl (any_of HT_.out (by kernel_rfl)) (fun _ _ _ h => h) (Or.inl ⟨by rfl, ?_⟩) ?_ ?_
          rotate_left
          · intro w'
            go_simp
            with_reducible rfl
          rotate_left
          · simp only [Act.put, List.setIfInBounds_toArray, List.set_cons_zero, List.set_cons_succ, i64_w, i32_w]
            rfl
          refine pure_ (i := 19) (N := some 22) (v := ?_) (a' := ?_) #[true, true, true, true, true, true, true, true, true, true, true, true, true, true, true, true, true, true, true, true, false, false, false, false, false, false] rfl rfl (any_of HT_.out (by kernel_rfl)) (fun _ _ _ h => h) (Or.inl ⟨by rfl, ?_⟩) ?_ ?_
          rotate_left
          · intro w'
            go_simp
            with_reducible rfl
          rotate_left
          · simp only [Act.put, List.setIfInBounds_toArray, List.set_cons_zero, List.set_cons_succ, i64_w, i32_w]
            rfl
          refine pure_ (i := 20) (N := some 23) (v := ?_) (a' := ?_) #[true, true, true, true, true, true, true, true, true, true, true, true, true, true, true, true, true, true, true, true, true, false, false, false, false, false] rfl rfl (any_of HT_.out (by kernel_rfl)) (fun _ _ _ h => h) (Or.inl ⟨by rfl, ?_⟩) ?_ ?_
          rotate_left
          · intro w'
            go_simp
            with_reducible rfl
          rotate_left
          · simp only [Act.put, List.setIfInBounds_toArray, List.set_cons_zero, List.set_cons_succ, i64_w, i32_w]
            rfl
          refine take_ (i := 21) (N := some 24) (v := ?_) (a' := ?_) #[true, true, true, true, true, true, true, true, true, true, true, true, true, true, true, true, true, true, true, true, true, true, false, false, false, false] rfl rfl (take_ofW HT_.out HW_.out (by kernel_rfl)) (fun _ _ _ h => h) (Or.inl ⟨by rfl, ?_⟩) hHeld ?_ ?_
          rotate_left
          · rintro w' ⟨s0, s1, s2⟩
            go_simp
            with_reducible rfl
          rotate_left
          · simp only [Act.put, List.setIfInBounds_toArray, List.set_cons_zero, List.set_cons_succ, i64_w, i32_w]
            rfl
          refine pure_ (i := 22) (N := some 25) (v := ?_) (a' := ?_) #[true, true, true, true, true, true, true, true, true, true, true, true, true, true, true, true, true, true, true, true, true, true, true, false, false, false] rfl rfl (any_of HT_.out (by kernel_rfl)) (fun _ _ _ h => h) (Or.inl ⟨by rfl, ?_⟩) ?_ ?_
          rotate_left
          · intro w'
            go_simp
            with_reducible rfl
          rotate_left
          · simp only [Act.put, List.setIfInBounds_toArray, List.set_cons_zero, List.set_cons_succ, i64_w, i32_w]
            rfl
          refine pure_ (i := 23) (N := some 26) (v := ?_) (a' := ?_) #[true, true, true, true, true, true, true, true, true, true, true, true, true, true, true, true, true, true, true, true, true, true, true, true, false, false] rfl rfl (any_of HT_.out (by kernel_rfl)) (fun _ _ _ h => h) (Or.inl ⟨by rfl, ?_⟩) ?_ ?_
          rotate_left
          · intro w'
            go_simp
            with_reducible rfl
          rotate_left
          · simp only [Act.put, List.setIfInBounds_toArray, List.set_cons_zero, List.set_cons_succ, i64_w, i32_w]
            rfl
          refine pure_ (i := 24) (N := some 27) (v := ?_) (a' := ?_) #[true, true, true, true, true, true, true, true, true, true, true, true, true, true, true, true, true, true, true, true, true, true, true, true, true, false] rfl rfl (any_of HT_.out (by kernel_rfl)) (fun _ _ _ h => h) (Or.inl ⟨by rfl, ?_⟩) ?_ ?_
          rotate_left
          · intro w'
            go_simp
            with_reducible rfl
          rotate_left
          · simp only [Act.put, List.setIfInBounds_toArray, List.set_cons_zero, List.set_cons_succ, i64_w, i32_w]
            rfl
          refine pure_ (i := 25) (N := some 2) (v := ?_) (a' := ?_) #[true, true, true, true, true, true, true, true, true, true, true, true, true, true, true, true, true, true, true, true, true, true, true, true, true, true] rfl rfl (any_of HT_.out (by kernel_rfl)) (fun _ _ _ h => h) (Or.inl ⟨by rfl, ?_⟩) ?_ ?_
          rotate_left
          · intro w'
            go_simp
            with_reducible rfl
          rotate_left
          · simp only [Act.put, List.setIfInBounds_toArray, List.set_cons_zero, List.set_cons_succ, i64_w, i32_w]
            rfl
          refine done_ (done_of HT_.out (by kernel_rfl)) ?_
          try go_wp2
          go_ret
          exact ⟨by first | rfl | (simp [errW_none, errW_some] <;> rfl) | (simp [*, errW_none, errW_some] <;> rfl), by repeat (first | (with_reducible first | exact HB.out | apply below_alloc | apply pw_below_drewN | apply below_drew1 | refine below_set ?_ GE160.out) | exact HB.out)⟩
      · replace c8 := Bool.eq_false_iff.mpr c8
        subst c8
        have H1 : (some false) = some r := by rw [if_neg (show ¬ (false = true) by decide)] at H; exact H
        clear H
        have H := H1
        clear H1
        obtain rfl := Option.some.inj H
        go_enter Tryz.func56, Tryz.ntmps56
        try go_wp2_with (first | ((with_reducible refine gate_dst (N := 1) rfl ?_); refine box_event ?hg (N := 1) ?hd (cs := #[.int .i64 a0_0, .int .i64 a0_1, .int .i64 a0_2]) (t := 47) ?hr ?_; (case hd => rfl); (case hg => rfl); (case hr => first | (go_simp; done) | (go_simp; rfl)); intro gb160 hg w16 hbox hb; have n0_ := Aside0.mk (below_step (by repeat (first | (with_reducible first | exact HB.out | apply below_alloc | apply pw_below_drewN | apply below_drew1) | exact HB.out)) hb); have n1_ := Aside0.mk (hbox); have n2_ := Aside0.mk ((by rw [hg]; exact (below_size (by repeat (first | (with_reducible first | exact HB.out | apply below_alloc | apply pw_below_drewN | apply below_drew1) | exact HB.out))) : w.heap.size ≤ gb160)); have n3_ := Aside0.mk ((by rw [hg]; exact (below_size (by repeat (first | (with_reducible first | exact HB.out | apply below_alloc | apply pw_below_drewN | apply below_drew1) | exact HB.out))) : w.heap.size ≤ gb160)); clear HB; have HB := n0_; have BK160 := n1_; have GW160 := n2_; have GE160 := n3_; clear n0_ n1_ n2_ n3_; clear hb hbox hg))
        have n0_ := Aside0.mk (blk_drew BK160.out)
        have n1_ := Aside0.mk (below_drew1 HB.out)
        clear BK160
        clear HB
        have BK160 := n0_
        have HB := n1_
        clear n0_ n1_
        refine start_ (n := 26) (S := fun w' => w'.cell? ⟨gb160, 0, none⟩ = some (.int .i64 a0_0) ∧ w'.cell? ⟨gb160, 1, none⟩ = some (.int .i64 a0_1) ∧ w'.cell? ⟨gb160, 2, none⟩ = some (.int .i64 a0_2)) (ds := []) #[false, false, false, false, false, false, false, false, false, false, false, false, false, false, false, false, false, false, false, false, false, false, false, false, false, false] (by kernel_rfl) rfl rfl ⟨(blk_cell BK160.out 0).trans rfl, (blk_cell BK160.out 1).trans rfl, (blk_cell BK160.out 2).trans rfl⟩ (fun hHeld => ?_); refine with_tabW snowlineref02_layer.tab1 snowlineref02_layer.bits1 (fun HT_ HW_ => ?_)
        generalize w16.drew = w17 at BK160 HB hHeld ⊢
        refine pure_ (i := 0) (N := some 3) (v := ?_) (a' := ?_) #[true, false, false, false, false, false, false, false, false, false, false, false, false, false, false, false, false, false, false, false, false, false, false, false, false, false] rfl rfl (any_of HT_.out (by kernel_rfl)) (fun _ _ _ h => h) (Or.inl ⟨by rfl, ?_⟩) ?_ ?_
        rotate_left
        · intro w'
          go_simp
          with_reducible rfl
        rotate_left
        · simp only [Act.put, List.setIfInBounds_toArray, List.set_cons_zero, List.set_cons_succ, i64_w, i32_w]
          rfl
        refine take_ (i := 1) (N := some 4) (v := ?_) (a' := ?_) #[true, true, false, false, false, false, false, false, false, false, false, false, false, false, false, false, false, false, false, false, false, false, false, false, false, false] rfl rfl (take_ofW HT_.out HW_.out (by kernel_rfl)) (fun _ _ _ h => h) (Or.inl ⟨by rfl, ?_⟩) hHeld ?_ ?_
        rotate_left
        · rintro w' ⟨s0, s1, s2⟩
          go_simp
          with_reducible rfl
        rotate_left
        · simp only [Act.put, List.setIfInBounds_toArray, List.set_cons_zero, List.set_cons_succ, i64_w, i32_w]
          rfl
        refine one_ (i := 2) (N := some 5) #[true, true, true, false, false, false, false, false, false, false, false, false, false, false, false, false, false, false, false, false, false, false, false, false, false, false] rfl rfl (one_of HT_.out (by kernel_rfl)) (by decide) (fun K hK => ?_)
        refine goes_ Tryz.func49 (by kernel_rfl) rfl #[.int .i64 a0_0, .int .i64 1, .int .i64 65536] (by rfl) rfl rfl (by (try simp only [List.map_toArray, List.map_cons, List.map_nil]); first | done | rfl | (simp only [List.length_drop, List.length_take]; rfl)) ?_
        with_reducible refine (snowlineref02_within.calls a0_0 1 65536 true _ A2.out).mono ?_
        rintro e w' ⟨rfl, ⟨nd, rfl⟩⟩
        refine ⟨_, rfl, ?_⟩
        refine hK.out _ _ ⟨(blk_cell BK160.out 0).trans rfl, (blk_cell BK160.out 1).trans rfl, (blk_cell BK160.out 2).trans rfl⟩ (fun hHeld => ?_)
        clear hK K
        refine norm_ (a' := ?_) ?_ ?_
        rotate_left
        · show Act.put _ (some 5) _ = _
          simp only [Act.put, List.setIfInBounds_toArray, List.set_cons_zero, List.set_cons_succ, i64_w, i32_w]
          rfl
        refine pure_ (i := 3) (N := some 6) (v := ?_) (a' := ?_) #[true, true, true, true, false, false, false, false, false, false, false, false, false, false, false, false, false, false, false, false, false, false, false, false, false, false] rfl rfl (any_of HT_.out (by kernel_rfl)) (fun _ _ _ h => h) (Or.inl ⟨by rfl, ?_⟩) ?_ ?_
        rotate_left
        · intro w'
          go_simp
          with_reducible rfl
        rotate_left
        · simp only [Act.put, List.setIfInBounds_toArray, List.set_cons_zero, List.set_cons_succ, i64_w, i32_w]
          rfl
        refine pure_ (i := 4) (N := some 7) (v := ?_) (a' := ?_) #[true, true, true, true, true, false, false, false, false, false, false, false, false, false, false, false, false, false, false, false, false, false, false, false, false, false] rfl rfl (any_of HT_.out (by kernel_rfl)) (fun _ _ _ h => h) (Or.inl ⟨by rfl, ?_⟩) ?_ ?_
        rotate_left
        · intro w'
          go_simp
          with_reducible rfl
        rotate_left
        · simp only [Act.put, List.setIfInBounds_toArray, List.set_cons_zero, List.set_cons_succ, i64_w, i32_w]
          rfl
        refine take_ (i := 5) (N := some 8) (v := ?_) (a' := ?_) #[true, true, true, true, true, true, false, false, false, false, false, false, false, false, false, false, false, false, false, false, false, false, false, false, false, false] rfl rfl (take_ofW HT_.out HW_.out (by kernel_rfl)) (fun _ _ _ h => h) (Or.inl ⟨by rfl, ?_⟩) hHeld ?_ ?_
        rotate_left
        · rintro w' ⟨s0, s1, s2⟩
          go_simp
          with_reducible rfl
        rotate_left
        · simp only [Act.put, List.setIfInBounds_toArray, List.set_cons_zero, List.set_cons_succ, i64_w, i32_w]
          rfl
        refine take_ (i := 6) (N := some 9) (v := ?_) (a' := ?_) #[true, true, true, true, true, true, true, false, false, false, false, false, false, false, false, false, false, false, false, false, false, false, false, false, false, false] rfl rfl (take_ofW HT_.out HW_.out (by kernel_rfl)) (fun _ _ _ h => h) (Or.inl ⟨by rfl, ?_⟩) hHeld ?_ ?_
        rotate_left
        · rintro w' ⟨s0, s1, s2⟩
          go_simp
          with_reducible rfl
        rotate_left
        · simp only [Act.put, List.setIfInBounds_toArray, List.set_cons_zero, List.set_cons_succ, i64_w, i32_w]
          rfl
        refine one_ (i := 7) (N := some 10) #[true, true, true, true, true, true, true, true, false, false, false, false, false, false, false, false, false, false, false, false, false, false, false, false, false, false] rfl rfl (one_of HT_.out (by kernel_rfl)) (by decide) (fun K hK => ?_)
        refine goes_ Tryz.func73 (by kernel_rfl) rfl #[.agg #[.int .i64 a0_0, .int .i64 a0_1, .int .i64 a0_2]] (by rfl) rfl rfl (by (try simp only [List.map_toArray, List.map_cons, List.map_nil]); first | done | rfl | (simp only [List.length_drop, List.length_take]; rfl)) ?_
        with_reducible refine (snowlineref02_hold.calls a0_0 a0_1 a0_2 t162 _ A4.out).mono ?_
        rintro e w18 ⟨rfl, hb⟩
        refine ⟨_, rfl, ?_⟩
        have n0_ := Aside0.mk (blk_below (g := gb160) (o := .cells #[.int .i64 a0_0, .int .i64 a0_1, .int .i64 a0_2] 47 (0, 0)) (by (with_reducible repeat (first | refine blk_drewN ?_ _ | refine blk_drew ?_ | refine blk_alloc ?_ _)); exact BK160.out) hb)
        have n1_ := Aside0.mk (below_step (by repeat (first | (with_reducible first | exact HB.out | apply below_alloc | apply pw_below_drewN | apply below_drew1 | refine below_set ?_ GE160.out) | exact HB.out)) hb)
        clear BK160
        clear HB
        have BK160 := n0_
        have HB := n1_
        clear n0_ n1_
        (try clear hb)
        (try clear hb2)
        (try clear hk)
        (try clear hi)
        refine hK.out _ _ ⟨(blk_cell BK160.out 0).trans rfl, (blk_cell BK160.out 1).trans rfl, (blk_cell BK160.out 2).trans rfl⟩ (fun hHeld => ?_)
        clear hK K
        refine norm_ (a' := ?_) ?_ ?_
        rotate_left
        · show Act.put _ (some 10) _ = _
          simp only [Act.put, List.setIfInBounds_toArray, List.set_cons_zero, List.set_cons_succ, i64_w, i32_w]
          rfl
        refine one_ (i := 8) (N := some 11) #[true, true, true, true, true, true, true, true, true, false, false, false, false, false, false, false, false, false, false, false, false, false, false, false, false, false] rfl rfl (one_of HT_.out (by kernel_rfl)) (by decide) (fun K hK => ?_)
        refine goes_ Tryz.func49 (by kernel_rfl) rfl #[.int .i64 a0_1, .int .i64 0, .int .i64 t162] (by rfl) rfl rfl (by (try simp only [List.map_toArray, List.map_cons, List.map_nil]); first | done | rfl | (simp only [List.length_drop, List.length_take]; rfl)) ?_
        with_reducible refine (snowlineref02_within.calls a0_1 0 t162 true _ A5.out).mono ?_
        rintro e w' ⟨rfl, ⟨nd, rfl⟩⟩
        refine ⟨_, rfl, ?_⟩
        refine hK.out _ _ ⟨(blk_cell BK160.out 0).trans rfl, (blk_cell BK160.out 1).trans rfl, (blk_cell BK160.out 2).trans rfl⟩ (fun hHeld => ?_)
        clear hK K
        refine norm_ (a' := ?_) ?_ ?_
        rotate_left
        · show Act.put _ (some 11) _ = _
          simp only [Act.put, List.setIfInBounds_toArray, List.set_cons_zero, List.set_cons_succ, i64_w, i32_w]
          rfl
        refine pure_ (i := 9) (N := some 12) (v := ?_) (a' := ?_) #[true, true, true, true, true, true, true, true, true, true, false, false, false, false, false, false, false, false, false, false, false, false, false, false, false, false] rfl rfl (any_of HT_.out (by kernel_rfl)) (fun _ _ _ h => h) (Or.inl ⟨by rfl, ?_⟩) ?_ ?_
        rotate_left
        · intro w'
          go_simp
          with_reducible rfl
        rotate_left
        · simp only [Act.put, List.setIfInBounds_toArray, List.set_cons_zero, List.set_cons_succ, i64_w, i32_w]
          rfl
        refine pure_ (i := 10) (N := some 13) (v := ?_) (a' := ?_) #[true, true, true, true, true, true, true, true, true, true, true, false, false, false, false, false, false, false, false, false, false, false, false, false, false, false] rfl rfl (any_of HT_.out (by kernel_rfl)) (fun _ _ _ h => h) (Or.inl ⟨by rfl, ?_⟩) ?_ ?_
        rotate_left
        · intro w'
          go_simp
          with_reducible rfl
        rotate_left
        · simp only [Act.put, List.setIfInBounds_toArray, List.set_cons_zero, List.set_cons_succ, i64_w, i32_w]
          rfl
        refine pure_ (i := 11) (N := some 14) (v := ?_) (a' := ?_) #[true, true, true, true, true, true, true, true, true, true, true, true, false, false, false, false, false, false, false, false, false, false, false, false, false, false] rfl rfl (any_of HT_.out (by kernel_rfl)) (fun _ _ _ h => h) (Or.inl ⟨by rfl, ?_⟩) ?_ ?_
        rotate_left
        · intro w'
          go_simp
          with_reducible rfl
        rotate_left
        · simp only [Act.put, List.setIfInBounds_toArray, List.set_cons_zero, List.set_cons_succ, i64_w, i32_w]
          rfl
        refine take_ (i := 12) (N := some 15) (v := ?_) (a' := ?_) #[true, true, true, true, true, true, true, true, true, true, true, true, true, false, false, false, false, false, false, false, false, false, false, false, false, false] rfl rfl (take_ofW HT_.out HW_.out (by kernel_rfl)) (fun _ _ _ h => h) (Or.inl ⟨by rfl, ?_⟩) hHeld ?_ ?_
        rotate_left
        · rintro w' ⟨s0, s1, s2⟩
          go_simp
          with_reducible rfl
        rotate_left
        · simp only [Act.put, List.setIfInBounds_toArray, List.set_cons_zero, List.set_cons_succ, i64_w, i32_w]
          rfl
        refine one_ (i := 13) (N := some 16) #[true, true, true, true, true, true, true, true, true, true, true, true, true, true, false, false, false, false, false, false, false, false, false, false, false, false] rfl rfl (one_of HT_.out (by kernel_rfl)) (by decide) (fun K hK => ?_)
        refine goes_ Tryz.func49 (by kernel_rfl) rfl #[.int .i64 a0_2, .int .i64 0, .int .i64 65536] (by rfl) rfl rfl (by (try simp only [List.map_toArray, List.map_cons, List.map_nil]); first | done | rfl | (simp only [List.length_drop, List.length_take]; rfl)) ?_
        with_reducible refine (snowlineref02_within.calls a0_2 0 65536 false _ A7.out).mono ?_
        rintro e w' ⟨rfl, ⟨nd, rfl⟩⟩
        refine ⟨_, rfl, ?_⟩
        refine hK.out _ _ ⟨(blk_cell BK160.out 0).trans rfl, (blk_cell BK160.out 1).trans rfl, (blk_cell BK160.out 2).trans rfl⟩ (fun hHeld => ?_)
        clear hK K
        refine norm_ (a' := ?_) ?_ ?_
        rotate_left
        · show Act.put _ (some 16) _ = _
          simp only [Act.put, List.setIfInBounds_toArray, List.set_cons_zero, List.set_cons_succ, i64_w, i32_w]
          rfl
        refine pure_ (i := 14) (N := some 17) (v := ?_) (a' := ?_) #[true, true, true, true, true, true, true, true, true, true, true, true, true, true, true, false, false, false, false, false, false, false, false, false, false, false] rfl rfl (any_of HT_.out (by kernel_rfl)) (fun _ _ _ h => h) (Or.inl ⟨by rfl, ?_⟩) ?_ ?_
        rotate_left
        · intro w'
          go_simp
          with_reducible rfl
        rotate_left
        · simp only [Act.put, List.setIfInBounds_toArray, List.set_cons_zero, List.set_cons_succ, i64_w, i32_w]
          rfl
        refine pure_ (i := 15) (N := some 18) (v := ?_) (a' := ?_) #[true, true, true, true, true, true, true, true, true, true, true, true, true, true, true, true, false, false, false, false, false, false, false, false, false, false] rfl rfl (any_of HT_.out (by kernel_rfl)) (fun _ _ _ h => h) (Or.inl ⟨by rfl, ?_⟩) ?_ ?_
        rotate_left
        · intro w'
          go_simp
          with_reducible rfl
        rotate_left
        · simp only [Act.put, List.setIfInBounds_toArray, List.set_cons_zero, List.set_cons_succ, i64_w, i32_w]
          rfl
        refine pure_ (i := 16) (N := some 19) (v := undef) (a' := ?_) #[true, true, true, true, true, true, true, true, true, true, true, true, true, true, true, true, true, false, false, false, false, false, false, false, false, false] rfl rfl (any_of HT_.out (by kernel_rfl)) (fun _ _ _ h => h) (Or.inr ⟨by rfl, rfl⟩) ?_ ?_
        rotate_left
        · simp only [Act.put, List.setIfInBounds_toArray, List.set_cons_zero, List.set_cons_succ, i64_w, i32_w]
          rfl
        refine pure_ (i := 17) (N := some 20) (v := undef) (a' := ?_) #[true, true, true, true, true, true, true, true, true, true, true, true, true, true, true, true, true, true, false, false, false, false, false, false, false, false] rfl rfl (any_of HT_.out (by kernel_rfl)) (fun _ _ _ h => h) (Or.inr ⟨by rfl, rfl⟩) ?_ ?_
        rotate_left
        · simp only [Act.put, List.setIfInBounds_toArray, List.set_cons_zero, List.set_cons_succ, i64_w, i32_w]
          rfl
        refine pure_ (i := 18) (N := some 21) (v := undef) (a' := ?_) #[true, true, true, true, true, true, true, true, true, true, true, true, true, true, true, true, true, true, true, false, false, false, false, false, false, false] rfl rfl (any_of HT_.out (by kernel_rfl)) (fun _ _ _ h => h) (Or.inr ⟨by rfl, rfl⟩) ?_ ?_
        rotate_left
        · simp only [Act.put, List.setIfInBounds_toArray, List.set_cons_zero, List.set_cons_succ, i64_w, i32_w]
          rfl
        refine pure_ (i := 19) (N := some 22) (v := undef) (a' := ?_) #[true, true, true, true, true, true, true, true, true, true, true, true, true, true, true, true, true, true, true, true, false, false, false, false, false, false] rfl rfl (any_of HT_.out (by kernel_rfl)) (fun _ _ _ h => h) (Or.inr ⟨by rfl, rfl⟩) ?_ ?_
        rotate_left
        · simp only [Act.put, List.setIfInBounds_toArray, List.set_cons_zero, List.set_cons_succ, i64_w, i32_w]
          rfl
        refine pure_ (i := 20) (N := some 23) (v := undef) (a' := ?_) #[true, true, true, true, true, true, true, true, true, true, true, true, true, true, true, true, true, true, true, true, true, false, false, false, false, false] rfl rfl (any_of HT_.out (by kernel_rfl)) (fun _ _ _ h => h) (Or.inr ⟨by rfl, rfl⟩) ?_ ?_
        rotate_left
        · simp only [Act.put, List.setIfInBounds_toArray, List.set_cons_zero, List.set_cons_succ, i64_w, i32_w]
          rfl
        refine pure_ (i := 21) (N := some 24) (v := undef) (a' := ?_) #[true, true, true, true, true, true, true, true, true, true, true, true, true, true, true, true, true, true, true, true, true, true, false, false, false, false] rfl rfl (any_of HT_.out (by kernel_rfl)) (fun _ _ _ h => h) (Or.inr ⟨by rfl, rfl⟩) ?_ ?_
        rotate_left
        · simp only [Act.put, List.setIfInBounds_toArray, List.set_cons_zero, List.set_cons_succ, i64_w, i32_w]
          rfl
        refine pure_ (i := 22) (N := some 25) (v := undef) (a' := ?_) #[true, true, true, true, true, true, true, true, true, true, true, true, true, true, true, true, true, true, true, true, true, true, true, false, false, false] rfl rfl (any_of HT_.out (by kernel_rfl)) (fun _ _ _ h => h) (Or.inr ⟨by rfl, rfl⟩) ?_ ?_
        rotate_left
        · simp only [Act.put, List.setIfInBounds_toArray, List.set_cons_zero, List.set_cons_succ, i64_w, i32_w]
          rfl
        refine pure_ (i := 23) (N := some 26) (v := undef) (a' := ?_) #[true, true, true, true, true, true, true, true, true, true, true, true, true, true, true, true, true, true, true, true, true, true, true, true, false, false] rfl rfl (any_of HT_.out (by kernel_rfl)) (fun _ _ _ h => h) (Or.inr ⟨by rfl, rfl⟩) ?_ ?_
        rotate_left
        · simp only [Act.put, List.setIfInBounds_toArray, List.set_cons_zero, List.set_cons_succ, i64_w, i32_w]
          rfl
        refine pure_ (i := 24) (N := some 27) (v := ?_) (a' := ?_) #[true, true, true, true, true, true, true, true, true, true, true, true, true, true, true, true, true, true, true, true, true, true, true, true, true, false] rfl rfl (any_of HT_.out (by kernel_rfl)) (fun _ _ _ h => h) (Or.inl ⟨by rfl, ?_⟩) ?_ ?_
        rotate_left
        · intro w'
          go_simp
          with_reducible rfl
        rotate_left
        · simp only [Act.put, List.setIfInBounds_toArray, List.set_cons_zero, List.set_cons_succ, i64_w, i32_w]
          rfl
        refine pure_ (i := 25) (N := some 2) (v := ?_) (a' := ?_) #[true, true, true, true, true, true, true, true, true, true, true, true, true, true, true, true, true, true, true, true, true, true, true, true, true, true] rfl rfl (any_of HT_.out (by kernel_rfl)) (fun _ _ _ h => h) (Or.inl ⟨by rfl, ?_⟩) ?_ ?_
        rotate_left
        · intro w'
          go_simp
          with_reducible rfl
        rotate_left
        · simp only [Act.put, List.setIfInBounds_toArray, List.set_cons_zero, List.set_cons_succ, i64_w, i32_w]
          rfl
        refine done_ (done_of HT_.out (by kernel_rfl)) ?_
        try go_wp2
        go_ret
        exact ⟨by first | rfl | (simp [errW_none, errW_some] <;> rfl) | (simp [*, errW_none, errW_some] <;> rfl), by repeat (first | (with_reducible first | exact HB.out | apply below_alloc | apply pw_below_drewN | apply below_drew1 | refine below_set ?_ GE160.out) | exact HB.out)⟩
    · replace c6 := Bool.eq_false_iff.mpr c6
      subst c6
      have H1 : (some false) = some r := by rw [if_neg (show ¬ (false = true) by decide)] at H; exact H
      clear H
      have H := H1
      clear H1
      obtain rfl := Option.some.inj H
      go_enter Tryz.func56, Tryz.ntmps56
      try go_wp2_with (first | ((with_reducible refine gate_dst (N := 1) rfl ?_); refine box_event ?hg (N := 1) ?hd (cs := #[.int .i64 a0_0, .int .i64 a0_1, .int .i64 a0_2]) (t := 47) ?hr ?_; (case hd => rfl); (case hg => rfl); (case hr => first | (go_simp; done) | (go_simp; rfl)); intro gb160 hg w19 hbox hb; have n0_ := Aside0.mk (below_step (by repeat (first | (with_reducible first | exact HB.out | apply below_alloc | apply pw_below_drewN | apply below_drew1) | exact HB.out)) hb); have n1_ := Aside0.mk (hbox); have n2_ := Aside0.mk ((by rw [hg]; exact (below_size (by repeat (first | (with_reducible first | exact HB.out | apply below_alloc | apply pw_below_drewN | apply below_drew1) | exact HB.out))) : w.heap.size ≤ gb160)); have n3_ := Aside0.mk ((by rw [hg]; exact (below_size (by repeat (first | (with_reducible first | exact HB.out | apply below_alloc | apply pw_below_drewN | apply below_drew1) | exact HB.out))) : w.heap.size ≤ gb160)); clear HB; have HB := n0_; have BK160 := n1_; have GW160 := n2_; have GE160 := n3_; clear n0_ n1_ n2_ n3_; clear hb hbox hg))
      have n0_ := Aside0.mk (blk_drew BK160.out)
      have n1_ := Aside0.mk (below_drew1 HB.out)
      clear BK160
      clear HB
      have BK160 := n0_
      have HB := n1_
      clear n0_ n1_
      refine start_ (n := 26) (S := fun w' => w'.cell? ⟨gb160, 0, none⟩ = some (.int .i64 a0_0) ∧ w'.cell? ⟨gb160, 1, none⟩ = some (.int .i64 a0_1) ∧ w'.cell? ⟨gb160, 2, none⟩ = some (.int .i64 a0_2)) (ds := []) #[false, false, false, false, false, false, false, false, false, false, false, false, false, false, false, false, false, false, false, false, false, false, false, false, false, false] (by kernel_rfl) rfl rfl ⟨(blk_cell BK160.out 0).trans rfl, (blk_cell BK160.out 1).trans rfl, (blk_cell BK160.out 2).trans rfl⟩ (fun hHeld => ?_); refine with_tabW snowlineref02_layer.tab1 snowlineref02_layer.bits1 (fun HT_ HW_ => ?_)
      generalize w19.drew = w20 at BK160 HB hHeld ⊢
      refine pure_ (i := 0) (N := some 3) (v := ?_) (a' := ?_) #[true, false, false, false, false, false, false, false, false, false, false, false, false, false, false, false, false, false, false, false, false, false, false, false, false, false] rfl rfl (any_of HT_.out (by kernel_rfl)) (fun _ _ _ h => h) (Or.inl ⟨by rfl, ?_⟩) ?_ ?_
      rotate_left
      · intro w'
        go_simp
        with_reducible rfl
      rotate_left
      · simp only [Act.put, List.setIfInBounds_toArray, List.set_cons_zero, List.set_cons_succ, i64_w, i32_w]
        rfl
      refine take_ (i := 1) (N := some 4) (v := ?_) (a' := ?_) #[true, true, false, false, false, false, false, false, false, false, false, false, false, false, false, false, false, false, false, false, false, false, false, false, false, false] rfl rfl (take_ofW HT_.out HW_.out (by kernel_rfl)) (fun _ _ _ h => h) (Or.inl ⟨by rfl, ?_⟩) hHeld ?_ ?_
      rotate_left
      · rintro w' ⟨s0, s1, s2⟩
        go_simp
        with_reducible rfl
      rotate_left
      · simp only [Act.put, List.setIfInBounds_toArray, List.set_cons_zero, List.set_cons_succ, i64_w, i32_w]
        rfl
      refine one_ (i := 2) (N := some 5) #[true, true, true, false, false, false, false, false, false, false, false, false, false, false, false, false, false, false, false, false, false, false, false, false, false, false] rfl rfl (one_of HT_.out (by kernel_rfl)) (by decide) (fun K hK => ?_)
      refine goes_ Tryz.func49 (by kernel_rfl) rfl #[.int .i64 a0_0, .int .i64 1, .int .i64 65536] (by rfl) rfl rfl (by (try simp only [List.map_toArray, List.map_cons, List.map_nil]); first | done | rfl | (simp only [List.length_drop, List.length_take]; rfl)) ?_
      with_reducible refine (snowlineref02_within.calls a0_0 1 65536 true _ A2.out).mono ?_
      rintro e w' ⟨rfl, ⟨nd, rfl⟩⟩
      refine ⟨_, rfl, ?_⟩
      refine hK.out _ _ ⟨(blk_cell BK160.out 0).trans rfl, (blk_cell BK160.out 1).trans rfl, (blk_cell BK160.out 2).trans rfl⟩ (fun hHeld => ?_)
      clear hK K
      refine norm_ (a' := ?_) ?_ ?_
      rotate_left
      · show Act.put _ (some 5) _ = _
        simp only [Act.put, List.setIfInBounds_toArray, List.set_cons_zero, List.set_cons_succ, i64_w, i32_w]
        rfl
      refine pure_ (i := 3) (N := some 6) (v := ?_) (a' := ?_) #[true, true, true, true, false, false, false, false, false, false, false, false, false, false, false, false, false, false, false, false, false, false, false, false, false, false] rfl rfl (any_of HT_.out (by kernel_rfl)) (fun _ _ _ h => h) (Or.inl ⟨by rfl, ?_⟩) ?_ ?_
      rotate_left
      · intro w'
        go_simp
        with_reducible rfl
      rotate_left
      · simp only [Act.put, List.setIfInBounds_toArray, List.set_cons_zero, List.set_cons_succ, i64_w, i32_w]
        rfl
      refine pure_ (i := 4) (N := some 7) (v := ?_) (a' := ?_) #[true, true, true, true, true, false, false, false, false, false, false, false, false, false, false, false, false, false, false, false, false, false, false, false, false, false] rfl rfl (any_of HT_.out (by kernel_rfl)) (fun _ _ _ h => h) (Or.inl ⟨by rfl, ?_⟩) ?_ ?_
      rotate_left
      · intro w'
        go_simp
        with_reducible rfl
      rotate_left
      · simp only [Act.put, List.setIfInBounds_toArray, List.set_cons_zero, List.set_cons_succ, i64_w, i32_w]
        rfl
      refine take_ (i := 5) (N := some 8) (v := ?_) (a' := ?_) #[true, true, true, true, true, true, false, false, false, false, false, false, false, false, false, false, false, false, false, false, false, false, false, false, false, false] rfl rfl (take_ofW HT_.out HW_.out (by kernel_rfl)) (fun _ _ _ h => h) (Or.inl ⟨by rfl, ?_⟩) hHeld ?_ ?_
      rotate_left
      · rintro w' ⟨s0, s1, s2⟩
        go_simp
        with_reducible rfl
      rotate_left
      · simp only [Act.put, List.setIfInBounds_toArray, List.set_cons_zero, List.set_cons_succ, i64_w, i32_w]
        rfl
      refine take_ (i := 6) (N := some 9) (v := ?_) (a' := ?_) #[true, true, true, true, true, true, true, false, false, false, false, false, false, false, false, false, false, false, false, false, false, false, false, false, false, false] rfl rfl (take_ofW HT_.out HW_.out (by kernel_rfl)) (fun _ _ _ h => h) (Or.inl ⟨by rfl, ?_⟩) hHeld ?_ ?_
      rotate_left
      · rintro w' ⟨s0, s1, s2⟩
        go_simp
        with_reducible rfl
      rotate_left
      · simp only [Act.put, List.setIfInBounds_toArray, List.set_cons_zero, List.set_cons_succ, i64_w, i32_w]
        rfl
      refine one_ (i := 7) (N := some 10) #[true, true, true, true, true, true, true, true, false, false, false, false, false, false, false, false, false, false, false, false, false, false, false, false, false, false] rfl rfl (one_of HT_.out (by kernel_rfl)) (by decide) (fun K hK => ?_)
      refine goes_ Tryz.func73 (by kernel_rfl) rfl #[.agg #[.int .i64 a0_0, .int .i64 a0_1, .int .i64 a0_2]] (by rfl) rfl rfl (by (try simp only [List.map_toArray, List.map_cons, List.map_nil]); first | done | rfl | (simp only [List.length_drop, List.length_take]; rfl)) ?_
      with_reducible refine (snowlineref02_hold.calls a0_0 a0_1 a0_2 t162 _ A4.out).mono ?_
      rintro e w21 ⟨rfl, hb⟩
      refine ⟨_, rfl, ?_⟩
      have n0_ := Aside0.mk (blk_below (g := gb160) (o := .cells #[.int .i64 a0_0, .int .i64 a0_1, .int .i64 a0_2] 47 (0, 0)) (by (with_reducible repeat (first | refine blk_drewN ?_ _ | refine blk_drew ?_ | refine blk_alloc ?_ _)); exact BK160.out) hb)
      have n1_ := Aside0.mk (below_step (by repeat (first | (with_reducible first | exact HB.out | apply below_alloc | apply pw_below_drewN | apply below_drew1 | refine below_set ?_ GE160.out) | exact HB.out)) hb)
      clear BK160
      clear HB
      have BK160 := n0_
      have HB := n1_
      clear n0_ n1_
      (try clear hb)
      (try clear hb2)
      (try clear hk)
      (try clear hi)
      refine hK.out _ _ ⟨(blk_cell BK160.out 0).trans rfl, (blk_cell BK160.out 1).trans rfl, (blk_cell BK160.out 2).trans rfl⟩ (fun hHeld => ?_)
      clear hK K
      refine norm_ (a' := ?_) ?_ ?_
      rotate_left
      · show Act.put _ (some 10) _ = _
        simp only [Act.put, List.setIfInBounds_toArray, List.set_cons_zero, List.set_cons_succ, i64_w, i32_w]
        rfl
      refine one_ (i := 8) (N := some 11) #[true, true, true, true, true, true, true, true, true, false, false, false, false, false, false, false, false, false, false, false, false, false, false, false, false, false] rfl rfl (one_of HT_.out (by kernel_rfl)) (by decide) (fun K hK => ?_)
      refine goes_ Tryz.func49 (by kernel_rfl) rfl #[.int .i64 a0_1, .int .i64 0, .int .i64 t162] (by rfl) rfl rfl (by (try simp only [List.map_toArray, List.map_cons, List.map_nil]); first | done | rfl | (simp only [List.length_drop, List.length_take]; rfl)) ?_
      with_reducible refine (snowlineref02_within.calls a0_1 0 t162 false _ A5.out).mono ?_
      rintro e w' ⟨rfl, ⟨nd, rfl⟩⟩
      refine ⟨_, rfl, ?_⟩
      refine hK.out _ _ ⟨(blk_cell BK160.out 0).trans rfl, (blk_cell BK160.out 1).trans rfl, (blk_cell BK160.out 2).trans rfl⟩ (fun hHeld => ?_)
      clear hK K
      refine norm_ (a' := ?_) ?_ ?_
      rotate_left
      · show Act.put _ (some 11) _ = _
        simp only [Act.put, List.setIfInBounds_toArray, List.set_cons_zero, List.set_cons_succ, i64_w, i32_w]
        rfl
      refine pure_ (i := 9) (N := some 12) (v := ?_) (a' := ?_) #[true, true, true, true, true, true, true, true, true, true, false, false, false, false, false, false, false, false, false, false, false, false, false, false, false, false] rfl rfl (any_of HT_.out (by kernel_rfl)) (fun _ _ _ h => h) (Or.inl ⟨by rfl, ?_⟩) ?_ ?_
      rotate_left
      · intro w'
        go_simp
        with_reducible rfl
      rotate_left
      · simp only [Act.put, List.setIfInBounds_toArray, List.set_cons_zero, List.set_cons_succ, i64_w, i32_w]
        rfl
      refine pure_ (i := 10) (N := some 13) (v := ?_) (a' := ?_) #[true, true, true, true, true, true, true, true, true, true, true, false, false, false, false, false, false, false, false, false, false, false, false, false, false, false] rfl rfl (any_of HT_.out (by kernel_rfl)) (fun _ _ _ h => h) (Or.inl ⟨by rfl, ?_⟩) ?_ ?_
      rotate_left
      · intro w'
        go_simp
        with_reducible rfl
      rotate_left
      · simp only [Act.put, List.setIfInBounds_toArray, List.set_cons_zero, List.set_cons_succ, i64_w, i32_w]
        rfl
      refine pure_ (i := 11) (N := some 14) (v := undef) (a' := ?_) #[true, true, true, true, true, true, true, true, true, true, true, true, false, false, false, false, false, false, false, false, false, false, false, false, false, false] rfl rfl (any_of HT_.out (by kernel_rfl)) (fun _ _ _ h => h) (Or.inr ⟨by rfl, rfl⟩) ?_ ?_
      rotate_left
      · simp only [Act.put, List.setIfInBounds_toArray, List.set_cons_zero, List.set_cons_succ, i64_w, i32_w]
        rfl
      refine pure_ (i := 12) (N := some 15) (v := undef) (a' := ?_) #[true, true, true, true, true, true, true, true, true, true, true, true, true, false, false, false, false, false, false, false, false, false, false, false, false, false] rfl rfl (any_of HT_.out (by kernel_rfl)) (fun _ _ _ h => h) (Or.inr ⟨by rfl, rfl⟩) ?_ ?_
      rotate_left
      · simp only [Act.put, List.setIfInBounds_toArray, List.set_cons_zero, List.set_cons_succ, i64_w, i32_w]
        rfl
      refine pure_ (i := 13) (N := some 16) (v := undef) (a' := ?_) #[true, true, true, true, true, true, true, true, true, true, true, true, true, true, false, false, false, false, false, false, false, false, false, false, false, false] rfl rfl (any_of HT_.out (by kernel_rfl)) (fun _ _ _ h => h) (Or.inr ⟨by rfl, rfl⟩) ?_ ?_
      rotate_left
      · simp only [Act.put, List.setIfInBounds_toArray, List.set_cons_zero, List.set_cons_succ, i64_w, i32_w]
        rfl
      refine pure_ (i := 14) (N := some 17) (v := ?_) (a' := ?_) #[true, true, true, true, true, true, true, true, true, true, true, true, true, true, true, false, false, false, false, false, false, false, false, false, false, false] rfl rfl (any_of HT_.out (by kernel_rfl)) (fun _ _ _ h => h) (Or.inl ⟨by rfl, ?_⟩) ?_ ?_
      rotate_left
      · intro w'
        go_simp
        with_reducible rfl
      rotate_left
      · simp only [Act.put, List.setIfInBounds_toArray, List.set_cons_zero, List.set_cons_succ, i64_w, i32_w]
        rfl
      refine pure_ (i := 15) (N := some 18) (v := ?_) (a' := ?_) #[true, true, true, true, true, true, true, true, true, true, true, true, true, true, true, true, false, false, false, false, false, false, false, false, false, false] rfl rfl (any_of HT_.out (by kernel_rfl)) (fun _ _ _ h => h) (Or.inl ⟨by rfl, ?_⟩) ?_ ?_
      rotate_left
      · intro w'
        go_simp
        with_reducible rfl
      rotate_left
      · simp only [Act.put, List.setIfInBounds_toArray, List.set_cons_zero, List.set_cons_succ, i64_w, i32_w]
        rfl
      refine pure_ (i := 16) (N := some 19) (v := undef) (a' := ?_) #[true, true, true, true, true, true, true, true, true, true, true, true, true, true, true, true, true, false, false, false, false, false, false, false, false, false] rfl rfl (any_of HT_.out (by kernel_rfl)) (fun _ _ _ h => h) (Or.inr ⟨by rfl, rfl⟩) ?_ ?_
      rotate_left
      · simp only [Act.put, List.setIfInBounds_toArray, List.set_cons_zero, List.set_cons_succ, i64_w, i32_w]
        rfl
      refine pure_ (i := 17) (N := some 20) (v := undef) (a' := ?_) #[true, true, true, true, true, true, true, true, true, true, true, true, true, true, true, true, true, true, false, false, false, false, false, false, false, false] rfl rfl (any_of HT_.out (by kernel_rfl)) (fun _ _ _ h => h) (Or.inr ⟨by rfl, rfl⟩) ?_ ?_
      rotate_left
      · simp only [Act.put, List.setIfInBounds_toArray, List.set_cons_zero, List.set_cons_succ, i64_w, i32_w]
        rfl
      refine pure_ (i := 18) (N := some 21) (v := undef) (a' := ?_) #[true, true, true, true, true, true, true, true, true, true, true, true, true, true, true, true, true, true, true, false, false, false, false, false, false, false] rfl rfl (any_of HT_.out (by kernel_rfl)) (fun _ _ _ h => h) (Or.inr ⟨by rfl, rfl⟩) ?_ ?_
      rotate_left
      · simp only [Act.put, List.setIfInBounds_toArray, List.set_cons_zero, List.set_cons_succ, i64_w, i32_w]
        rfl
      refine pure_ (i := 19) (N := some 22) (v := undef) (a' := ?_) #[true, true, true, true, true, true, true, true, true, true, true, true, true, true, true, true, true, true, true, true, false, false, false, false, false, false] rfl rfl (any_of HT_.out (by kernel_rfl)) (fun _ _ _ h => h) (Or.inr ⟨by rfl, rfl⟩) ?_ ?_
      rotate_left
      · simp only [Act.put, List.setIfInBounds_toArray, List.set_cons_zero, List.set_cons_succ, i64_w, i32_w]
        rfl
      refine pure_ (i := 20) (N := some 23) (v := undef) (a' := ?_) #[true, true, true, true, true, true, true, true, true, true, true, true, true, true, true, true, true, true, true, true, true, false, false, false, false, false] rfl rfl (any_of HT_.out (by kernel_rfl)) (fun _ _ _ h => h) (Or.inr ⟨by rfl, rfl⟩) ?_ ?_
      rotate_left
      · simp only [Act.put, List.setIfInBounds_toArray, List.set_cons_zero, List.set_cons_succ, i64_w, i32_w]
        rfl
      refine pure_ (i := 21) (N := some 24) (v := undef) (a' := ?_) #[true, true, true, true, true, true, true, true, true, true, true, true, true, true, true, true, true, true, true, true, true, true, false, false, false, false] rfl rfl (any_of HT_.out (by kernel_rfl)) (fun _ _ _ h => h) (Or.inr ⟨by rfl, rfl⟩) ?_ ?_
      rotate_left
      · simp only [Act.put, List.setIfInBounds_toArray, List.set_cons_zero, List.set_cons_succ, i64_w, i32_w]
        rfl
      refine pure_ (i := 22) (N := some 25) (v := undef) (a' := ?_) #[true, true, true, true, true, true, true, true, true, true, true, true, true, true, true, true, true, true, true, true, true, true, true, false, false, false] rfl rfl (any_of HT_.out (by kernel_rfl)) (fun _ _ _ h => h) (Or.inr ⟨by rfl, rfl⟩) ?_ ?_
      rotate_left
      · simp only [Act.put, List.setIfInBounds_toArray, List.set_cons_zero, List.set_cons_succ, i64_w, i32_w]
        rfl
      refine pure_ (i := 23) (N := some 26) (v := undef) (a' := ?_) #[true, true, true, true, true, true, true, true, true, true, true, true, true, true, true, true, true, true, true, true, true, true, true, true, false, false] rfl rfl (any_of HT_.out (by kernel_rfl)) (fun _ _ _ h => h) (Or.inr ⟨by rfl, rfl⟩) ?_ ?_
      rotate_left
      · simp only [Act.put, List.setIfInBounds_toArray, List.set_cons_zero, List.set_cons_succ, i64_w, i32_w]
        rfl
      refine pure_ (i := 24) (N := some 27) (v := ?_) (a' := ?_) #[true, true, true, true, true, true, true, true, true, true, true, true, true, true, true, true, true, true, true, true, true, true, true, true, true, false] rfl rfl (any_of HT_.out (by kernel_rfl)) (fun _ _ _ h => h) (Or.inl ⟨by rfl, ?_⟩) ?_ ?_
      rotate_left
      · intro w'
        go_simp
        with_reducible rfl
      rotate_left
      · simp only [Act.put, List.setIfInBounds_toArray, List.set_cons_zero, List.set_cons_succ, i64_w, i32_w]
        rfl
      refine pure_ (i := 25) (N := some 2) (v := ?_) (a' := ?_) #[true, true, true, true, true, true, true, true, true, true, true, true, true, true, true, true, true, true, true, true, true, true, true, true, true, true] rfl rfl (any_of HT_.out (by kernel_rfl)) (fun _ _ _ h => h) (Or.inl ⟨by rfl, ?_⟩) ?_ ?_
      rotate_left
      · intro w'
        go_simp
        with_reducible rfl
      rotate_left
      · simp only [Act.put, List.setIfInBounds_toArray, List.set_cons_zero, List.set_cons_succ, i64_w, i32_w]
        rfl
      refine done_ (done_of HT_.out (by kernel_rfl)) ?_
      try go_wp2
      go_ret
      exact ⟨by first | rfl | (simp [errW_none, errW_some] <;> rfl) | (simp [*, errW_none, errW_some] <;> rfl), by repeat (first | (with_reducible first | exact HB.out | apply below_alloc | apply pw_below_drewN | apply below_drew1 | refine below_set ?_ GE160.out) | exact HB.out)⟩
  · replace c3 := Bool.eq_false_iff.mpr c3
    subst c3
    have H1 : (some false) = some r := by rw [if_neg (show ¬ (false = true) by decide)] at H; exact H
    clear H
    have H := H1
    clear H1
    obtain rfl := Option.some.inj H
    go_enter Tryz.func56, Tryz.ntmps56
    try go_wp2_with (first | ((with_reducible refine gate_dst (N := 1) rfl ?_); refine box_event ?hg (N := 1) ?hd (cs := #[.int .i64 a0_0, .int .i64 a0_1, .int .i64 a0_2]) (t := 47) ?hr ?_; (case hd => rfl); (case hg => rfl); (case hr => first | (go_simp; done) | (go_simp; rfl)); intro gb160 hg w22 hbox hb; have n0_ := Aside0.mk (below_step (by repeat (first | (with_reducible first | exact HB.out | apply below_alloc | apply pw_below_drewN | apply below_drew1) | exact HB.out)) hb); have n1_ := Aside0.mk (hbox); have n2_ := Aside0.mk ((by rw [hg]; exact (below_size (by repeat (first | (with_reducible first | exact HB.out | apply below_alloc | apply pw_below_drewN | apply below_drew1) | exact HB.out))) : w.heap.size ≤ gb160)); have n3_ := Aside0.mk ((by rw [hg]; exact (below_size (by repeat (first | (with_reducible first | exact HB.out | apply below_alloc | apply pw_below_drewN | apply below_drew1) | exact HB.out))) : w.heap.size ≤ gb160)); clear HB; have HB := n0_; have BK160 := n1_; have GW160 := n2_; have GE160 := n3_; clear n0_ n1_ n2_ n3_; clear hb hbox hg))
    have n0_ := Aside0.mk (blk_drew BK160.out)
    have n1_ := Aside0.mk (below_drew1 HB.out)
    clear BK160
    clear HB
    have BK160 := n0_
    have HB := n1_
    clear n0_ n1_
    refine start_ (n := 26) (S := fun w' => w'.cell? ⟨gb160, 0, none⟩ = some (.int .i64 a0_0) ∧ w'.cell? ⟨gb160, 1, none⟩ = some (.int .i64 a0_1) ∧ w'.cell? ⟨gb160, 2, none⟩ = some (.int .i64 a0_2)) (ds := []) #[false, false, false, false, false, false, false, false, false, false, false, false, false, false, false, false, false, false, false, false, false, false, false, false, false, false] (by kernel_rfl) rfl rfl ⟨(blk_cell BK160.out 0).trans rfl, (blk_cell BK160.out 1).trans rfl, (blk_cell BK160.out 2).trans rfl⟩ (fun hHeld => ?_); refine with_tabW snowlineref02_layer.tab1 snowlineref02_layer.bits1 (fun HT_ HW_ => ?_)
    generalize w22.drew = w23 at BK160 HB hHeld ⊢
    refine pure_ (i := 0) (N := some 3) (v := ?_) (a' := ?_) #[true, false, false, false, false, false, false, false, false, false, false, false, false, false, false, false, false, false, false, false, false, false, false, false, false, false] rfl rfl (any_of HT_.out (by kernel_rfl)) (fun _ _ _ h => h) (Or.inl ⟨by rfl, ?_⟩) ?_ ?_
    rotate_left
    · intro w'
      go_simp
      with_reducible rfl
    rotate_left
    · simp only [Act.put, List.setIfInBounds_toArray, List.set_cons_zero, List.set_cons_succ, i64_w, i32_w]
      rfl
    refine take_ (i := 1) (N := some 4) (v := ?_) (a' := ?_) #[true, true, false, false, false, false, false, false, false, false, false, false, false, false, false, false, false, false, false, false, false, false, false, false, false, false] rfl rfl (take_ofW HT_.out HW_.out (by kernel_rfl)) (fun _ _ _ h => h) (Or.inl ⟨by rfl, ?_⟩) hHeld ?_ ?_
    rotate_left
    · rintro w' ⟨s0, s1, s2⟩
      go_simp
      with_reducible rfl
    rotate_left
    · simp only [Act.put, List.setIfInBounds_toArray, List.set_cons_zero, List.set_cons_succ, i64_w, i32_w]
      rfl
    refine one_ (i := 2) (N := some 5) #[true, true, true, false, false, false, false, false, false, false, false, false, false, false, false, false, false, false, false, false, false, false, false, false, false, false] rfl rfl (one_of HT_.out (by kernel_rfl)) (by decide) (fun K hK => ?_)
    refine goes_ Tryz.func49 (by kernel_rfl) rfl #[.int .i64 a0_0, .int .i64 1, .int .i64 65536] (by rfl) rfl rfl (by (try simp only [List.map_toArray, List.map_cons, List.map_nil]); first | done | rfl | (simp only [List.length_drop, List.length_take]; rfl)) ?_
    with_reducible refine (snowlineref02_within.calls a0_0 1 65536 false _ A2.out).mono ?_
    rintro e w' ⟨rfl, ⟨nd, rfl⟩⟩
    refine ⟨_, rfl, ?_⟩
    refine hK.out _ _ ⟨(blk_cell BK160.out 0).trans rfl, (blk_cell BK160.out 1).trans rfl, (blk_cell BK160.out 2).trans rfl⟩ (fun hHeld => ?_)
    clear hK K
    refine norm_ (a' := ?_) ?_ ?_
    rotate_left
    · show Act.put _ (some 5) _ = _
      simp only [Act.put, List.setIfInBounds_toArray, List.set_cons_zero, List.set_cons_succ, i64_w, i32_w]
      rfl
    refine pure_ (i := 3) (N := some 6) (v := ?_) (a' := ?_) #[true, true, true, true, false, false, false, false, false, false, false, false, false, false, false, false, false, false, false, false, false, false, false, false, false, false] rfl rfl (any_of HT_.out (by kernel_rfl)) (fun _ _ _ h => h) (Or.inl ⟨by rfl, ?_⟩) ?_ ?_
    rotate_left
    · intro w'
      go_simp
      with_reducible rfl
    rotate_left
    · simp only [Act.put, List.setIfInBounds_toArray, List.set_cons_zero, List.set_cons_succ, i64_w, i32_w]
      rfl
    refine pure_ (i := 4) (N := some 7) (v := undef) (a' := ?_) #[true, true, true, true, true, false, false, false, false, false, false, false, false, false, false, false, false, false, false, false, false, false, false, false, false, false] rfl rfl (any_of HT_.out (by kernel_rfl)) (fun _ _ _ h => h) (Or.inr ⟨by rfl, rfl⟩) ?_ ?_
    rotate_left
    · simp only [Act.put, List.setIfInBounds_toArray, List.set_cons_zero, List.set_cons_succ, i64_w, i32_w]
      rfl
    refine pure_ (i := 5) (N := some 8) (v := undef) (a' := ?_) #[true, true, true, true, true, true, false, false, false, false, false, false, false, false, false, false, false, false, false, false, false, false, false, false, false, false] rfl rfl (any_of HT_.out (by kernel_rfl)) (fun _ _ _ h => h) (Or.inr ⟨by rfl, rfl⟩) ?_ ?_
    rotate_left
    · simp only [Act.put, List.setIfInBounds_toArray, List.set_cons_zero, List.set_cons_succ, i64_w, i32_w]
      rfl
    refine pure_ (i := 6) (N := some 9) (v := undef) (a' := ?_) #[true, true, true, true, true, true, true, false, false, false, false, false, false, false, false, false, false, false, false, false, false, false, false, false, false, false] rfl rfl (any_of HT_.out (by kernel_rfl)) (fun _ _ _ h => h) (Or.inr ⟨by rfl, rfl⟩) ?_ ?_
    rotate_left
    · simp only [Act.put, List.setIfInBounds_toArray, List.set_cons_zero, List.set_cons_succ, i64_w, i32_w]
      rfl
    refine pure_ (i := 7) (N := some 10) (v := undef) (a' := ?_) #[true, true, true, true, true, true, true, true, false, false, false, false, false, false, false, false, false, false, false, false, false, false, false, false, false, false] rfl rfl (any_of HT_.out (by kernel_rfl)) (fun _ _ _ h => h) (Or.inr ⟨by rfl, rfl⟩) ?_ ?_
    rotate_left
    · simp only [Act.put, List.setIfInBounds_toArray, List.set_cons_zero, List.set_cons_succ, i64_w, i32_w]
      rfl
    refine pure_ (i := 8) (N := some 11) (v := undef) (a' := ?_) #[true, true, true, true, true, true, true, true, true, false, false, false, false, false, false, false, false, false, false, false, false, false, false, false, false, false] rfl rfl (any_of HT_.out (by kernel_rfl)) (fun _ _ _ h => h) (Or.inr ⟨by rfl, rfl⟩) ?_ ?_
    rotate_left
    · simp only [Act.put, List.setIfInBounds_toArray, List.set_cons_zero, List.set_cons_succ, i64_w, i32_w]
      rfl
    refine pure_ (i := 9) (N := some 12) (v := ?_) (a' := ?_) #[true, true, true, true, true, true, true, true, true, true, false, false, false, false, false, false, false, false, false, false, false, false, false, false, false, false] rfl rfl (any_of HT_.out (by kernel_rfl)) (fun _ _ _ h => h) (Or.inl ⟨by rfl, ?_⟩) ?_ ?_
    rotate_left
    · intro w'
      go_simp
      with_reducible rfl
    rotate_left
    · simp only [Act.put, List.setIfInBounds_toArray, List.set_cons_zero, List.set_cons_succ, i64_w, i32_w]
      rfl
    refine pure_ (i := 10) (N := some 13) (v := ?_) (a' := ?_) #[true, true, true, true, true, true, true, true, true, true, true, false, false, false, false, false, false, false, false, false, false, false, false, false, false, false] rfl rfl (any_of HT_.out (by kernel_rfl)) (fun _ _ _ h => h) (Or.inl ⟨by rfl, ?_⟩) ?_ ?_
    rotate_left
    · intro w'
      go_simp
      with_reducible rfl
    rotate_left
    · simp only [Act.put, List.setIfInBounds_toArray, List.set_cons_zero, List.set_cons_succ, i64_w, i32_w]
      rfl
    refine pure_ (i := 11) (N := some 14) (v := undef) (a' := ?_) #[true, true, true, true, true, true, true, true, true, true, true, true, false, false, false, false, false, false, false, false, false, false, false, false, false, false] rfl rfl (any_of HT_.out (by kernel_rfl)) (fun _ _ _ h => h) (Or.inr ⟨by rfl, rfl⟩) ?_ ?_
    rotate_left
    · simp only [Act.put, List.setIfInBounds_toArray, List.set_cons_zero, List.set_cons_succ, i64_w, i32_w]
      rfl
    refine pure_ (i := 12) (N := some 15) (v := undef) (a' := ?_) #[true, true, true, true, true, true, true, true, true, true, true, true, true, false, false, false, false, false, false, false, false, false, false, false, false, false] rfl rfl (any_of HT_.out (by kernel_rfl)) (fun _ _ _ h => h) (Or.inr ⟨by rfl, rfl⟩) ?_ ?_
    rotate_left
    · simp only [Act.put, List.setIfInBounds_toArray, List.set_cons_zero, List.set_cons_succ, i64_w, i32_w]
      rfl
    refine pure_ (i := 13) (N := some 16) (v := undef) (a' := ?_) #[true, true, true, true, true, true, true, true, true, true, true, true, true, true, false, false, false, false, false, false, false, false, false, false, false, false] rfl rfl (any_of HT_.out (by kernel_rfl)) (fun _ _ _ h => h) (Or.inr ⟨by rfl, rfl⟩) ?_ ?_
    rotate_left
    · simp only [Act.put, List.setIfInBounds_toArray, List.set_cons_zero, List.set_cons_succ, i64_w, i32_w]
      rfl
    refine pure_ (i := 14) (N := some 17) (v := ?_) (a' := ?_) #[true, true, true, true, true, true, true, true, true, true, true, true, true, true, true, false, false, false, false, false, false, false, false, false, false, false] rfl rfl (any_of HT_.out (by kernel_rfl)) (fun _ _ _ h => h) (Or.inl ⟨by rfl, ?_⟩) ?_ ?_
    rotate_left
    · intro w'
      go_simp
      with_reducible rfl
    rotate_left
    · simp only [Act.put, List.setIfInBounds_toArray, List.set_cons_zero, List.set_cons_succ, i64_w, i32_w]
      rfl
    refine pure_ (i := 15) (N := some 18) (v := ?_) (a' := ?_) #[true, true, true, true, true, true, true, true, true, true, true, true, true, true, true, true, false, false, false, false, false, false, false, false, false, false] rfl rfl (any_of HT_.out (by kernel_rfl)) (fun _ _ _ h => h) (Or.inl ⟨by rfl, ?_⟩) ?_ ?_
    rotate_left
    · intro w'
      go_simp
      with_reducible rfl
    rotate_left
    · simp only [Act.put, List.setIfInBounds_toArray, List.set_cons_zero, List.set_cons_succ, i64_w, i32_w]
      rfl
    refine pure_ (i := 16) (N := some 19) (v := undef) (a' := ?_) #[true, true, true, true, true, true, true, true, true, true, true, true, true, true, true, true, true, false, false, false, false, false, false, false, false, false] rfl rfl (any_of HT_.out (by kernel_rfl)) (fun _ _ _ h => h) (Or.inr ⟨by rfl, rfl⟩) ?_ ?_
    rotate_left
    · simp only [Act.put, List.setIfInBounds_toArray, List.set_cons_zero, List.set_cons_succ, i64_w, i32_w]
      rfl
    refine pure_ (i := 17) (N := some 20) (v := undef) (a' := ?_) #[true, true, true, true, true, true, true, true, true, true, true, true, true, true, true, true, true, true, false, false, false, false, false, false, false, false] rfl rfl (any_of HT_.out (by kernel_rfl)) (fun _ _ _ h => h) (Or.inr ⟨by rfl, rfl⟩) ?_ ?_
    rotate_left
    · simp only [Act.put, List.setIfInBounds_toArray, List.set_cons_zero, List.set_cons_succ, i64_w, i32_w]
      rfl
    refine pure_ (i := 18) (N := some 21) (v := undef) (a' := ?_) #[true, true, true, true, true, true, true, true, true, true, true, true, true, true, true, true, true, true, true, false, false, false, false, false, false, false] rfl rfl (any_of HT_.out (by kernel_rfl)) (fun _ _ _ h => h) (Or.inr ⟨by rfl, rfl⟩) ?_ ?_
    rotate_left
    · simp only [Act.put, List.setIfInBounds_toArray, List.set_cons_zero, List.set_cons_succ, i64_w, i32_w]
      rfl
    refine pure_ (i := 19) (N := some 22) (v := undef) (a' := ?_) #[true, true, true, true, true, true, true, true, true, true, true, true, true, true, true, true, true, true, true, true, false, false, false, false, false, false] rfl rfl (any_of HT_.out (by kernel_rfl)) (fun _ _ _ h => h) (Or.inr ⟨by rfl, rfl⟩) ?_ ?_
    rotate_left
    · simp only [Act.put, List.setIfInBounds_toArray, List.set_cons_zero, List.set_cons_succ, i64_w, i32_w]
      rfl
    refine pure_ (i := 20) (N := some 23) (v := undef) (a' := ?_) #[true, true, true, true, true, true, true, true, true, true, true, true, true, true, true, true, true, true, true, true, true, false, false, false, false, false] rfl rfl (any_of HT_.out (by kernel_rfl)) (fun _ _ _ h => h) (Or.inr ⟨by rfl, rfl⟩) ?_ ?_
    rotate_left
    · simp only [Act.put, List.setIfInBounds_toArray, List.set_cons_zero, List.set_cons_succ, i64_w, i32_w]
      rfl
    refine pure_ (i := 21) (N := some 24) (v := undef) (a' := ?_) #[true, true, true, true, true, true, true, true, true, true, true, true, true, true, true, true, true, true, true, true, true, true, false, false, false, false] rfl rfl (any_of HT_.out (by kernel_rfl)) (fun _ _ _ h => h) (Or.inr ⟨by rfl, rfl⟩) ?_ ?_
    rotate_left
    · simp only [Act.put, List.setIfInBounds_toArray, List.set_cons_zero, List.set_cons_succ, i64_w, i32_w]
      rfl
    refine pure_ (i := 22) (N := some 25) (v := undef) (a' := ?_) #[true, true, true, true, true, true, true, true, true, true, true, true, true, true, true, true, true, true, true, true, true, true, true, false, false, false] rfl rfl (any_of HT_.out (by kernel_rfl)) (fun _ _ _ h => h) (Or.inr ⟨by rfl, rfl⟩) ?_ ?_
    rotate_left
    · simp only [Act.put, List.setIfInBounds_toArray, List.set_cons_zero, List.set_cons_succ, i64_w, i32_w]
      rfl
    refine pure_ (i := 23) (N := some 26) (v := undef) (a' := ?_) #[true, true, true, true, true, true, true, true, true, true, true, true, true, true, true, true, true, true, true, true, true, true, true, true, false, false] rfl rfl (any_of HT_.out (by kernel_rfl)) (fun _ _ _ h => h) (Or.inr ⟨by rfl, rfl⟩) ?_ ?_
    rotate_left
    · simp only [Act.put, List.setIfInBounds_toArray, List.set_cons_zero, List.set_cons_succ, i64_w, i32_w]
      rfl
    refine pure_ (i := 24) (N := some 27) (v := ?_) (a' := ?_) #[true, true, true, true, true, true, true, true, true, true, true, true, true, true, true, true, true, true, true, true, true, true, true, true, true, false] rfl rfl (any_of HT_.out (by kernel_rfl)) (fun _ _ _ h => h) (Or.inl ⟨by rfl, ?_⟩) ?_ ?_
    rotate_left
    · intro w'
      go_simp
      with_reducible rfl
    rotate_left
    · simp only [Act.put, List.setIfInBounds_toArray, List.set_cons_zero, List.set_cons_succ, i64_w, i32_w]
      rfl
    refine pure_ (i := 25) (N := some 2) (v := ?_) (a' := ?_) #[true, true, true, true, true, true, true, true, true, true, true, true, true, true, true, true, true, true, true, true, true, true, true, true, true, true] rfl rfl (any_of HT_.out (by kernel_rfl)) (fun _ _ _ h => h) (Or.inl ⟨by rfl, ?_⟩) ?_ ?_
    rotate_left
    · intro w'
      go_simp
      with_reducible rfl
    rotate_left
    · simp only [Act.put, List.setIfInBounds_toArray, List.set_cons_zero, List.set_cons_succ, i64_w, i32_w]
      rfl
    refine done_ (done_of HT_.out (by kernel_rfl)) ?_
    try go_wp2
    go_ret
    exact ⟨by first | rfl | (simp [errW_none, errW_some] <;> rfl) | (simp [*, errW_none, errW_some] <;> rfl), by repeat (first | (with_reducible first | exact HB.out | apply below_alloc | apply pw_below_drewN | apply below_drew1 | refine below_set ?_ GE160.out) | exact HB.out)⟩
end Go.Proofs.YtpldcikmlpegpaaGreatDoor.PB
end
section
namespace Go.Proofs.YtpldcikmlpegpaaGreatDoor.PB
open Go.RowKit Go.Proofs.YtpldcikmlpegpaaGreatDoorW.PrintWords Go.Proofs.YtpldcikmlpegpaaGreatDoorW.PrintLast Go.Proofs.YtpldcikmlpegpaaGreatDoorW.PrintMore
attribute [local go_sem] max2_int min2_int max_two min_two max_three min_three max_four min_four   -- for this text's walks alone
set_option linter.unusedVariables false
set_option linter.unusedSimpArgs false
def snowlineref02_water.l0 : Nat → List (S47) → Int → Int → Option (Int)
  | 0, _, _, _ => none
  | k + 1, x0, x3, x4 => if x4 < (x0.length : Int) then (if 0 ≤ x4 then (snowlineref02_water.l0 k x0 (wrap64 ((wrap64 (x3 + ((rd_T47 x0 x4).f0))) + ((rd_T47 x0 x4).f1))) (wrap64 (x4 + 1))) else (none)) else (some x3)
def snowlineref02_water.f (k : Nat) (l0 : List (S47)) : Option (Int) := snowlineref02_water.l0 k l0 0 0
set_option maxHeartbeats 8000000 in
set_option maxRecDepth 100000 in
theorem snowlineref02_water.calls (k : Nat) (A0 : Option Addr) (c0 : Nat) (l0 : List (S47)) (r : Int) (w : World) (hr0 : Kd.C k47 w A0 l0.length l0) (hc0 : l0.length ≤ c0) (h : snowlineref02_water.f k l0 = some r) :
    Calls Tryz.prog 57 #[.slice A0 l0.length c0] w fun e w' => e = .returned (.int .i64 r) ∧ Drawn0 w w' := by
  have HR0 := Aside0.mk hr0
  have HC0 := Aside0.mk hc0
  clear hr0 hc0
  have H : (snowlineref02_water.l0 k l0 0 0) = some r := h
  clear h
  have H' := Aside0.mk H
  clear H
  go_enter Tryz.func57, Tryz.ntmps57
  go_wp2
  repeat (go_quiet (fail); try go_wp2)
  go_loopg [3, 4] k (fun kq v3 v4 w' => ∃ (x3_1 : Int) (x4_1 : Int), v3 = .int .i64 x3_1 ∧ v4 = .int .i64 x4_1 ∧ Aside0 (snowlineref02_water.l0 kq l0 x3_1 x4_1 = some r) ∧ Aside0 (kq ≤ k) ∧ Drawn0 w w')
  case atStart => exact ⟨(0), (0), (by first | rfl | (simp; done) | (simp [*]; done)), (by first | rfl | (simp; done) | (simp [*]; done)), H', ⟨Nat.le_refl _⟩, by repeat (first | exact Drawn0.refl _ | apply Drawn0.step)⟩
  case round =>
    clear H'
    obtain ⟨x3_1, x4_1, rfl, rfl, HA, HK1, ⟨m1, rfl⟩⟩ := hrel
    cases gk with
    | zero => exact absurd HA.out (by simp [snowlineref02_water.l0])
    | succ k1 =>
      have H := HA.out
      clear HA
      simp only [snowlineref02_water.l0] at H
      by_cases c2 : x4_1 < (l0.length : Int)
      · rw [if_pos c2] at H
        have c2b0 : decide (x4_1 < (l0.length : Int)) = true := decide_eq_true c2
        clear c2
        by_cases c3 : 0 ≤ x4_1
        · rw [if_pos c3] at H
          have c3b0 : decide (0 ≤ x4_1) = true := decide_eq_true c3
          clear c3
          have H' := Aside0.mk H
          clear H
          have p165 : 0 ≤ (x4_1 : Int) := of_decide_eq_true (by first | (with_reducible assumption) | assumption)
          have q165 : x4_1 < (l0.length : Int) := of_decide_eq_true (by first | (with_reducible assumption) | assumption)
          obtain ⟨ad165, e165, hx165_0, hx165_1, hx165_2⟩ := at_T47 HR0.out x4_1 p165 q165
          cases e165
          replace p165 := eq_true p165
          replace q165 := eq_true q165
          have p166 : 0 ≤ (x4_1 : Int) := of_decide_eq_true (by first | (with_reducible assumption) | assumption)
          have q166 : x4_1 < (l0.length : Int) := of_decide_eq_true (by first | (with_reducible assumption) | assumption)
          obtain ⟨ad166, e166, hx166_0, hx166_1, hx166_2⟩ := at_T47 HR0.out x4_1 p166 q166
          obtain rfl : ad165 = ad166 := (by injection e166)
          replace p166 := eq_true p166
          replace q166 := eq_true q166
          go_wp2
          repeat (go_quiet (fail); try go_wp2)
          go_roundg k1
          case measure => have := HK1.out; omega
          case rel => exact ⟨(wrap64 ((wrap64 (x3_1 + ((rd_T47 l0 x4_1).f0))) + ((rd_T47 l0 x4_1).f1))), (wrap64 (x4_1 + 1)), (by first | rfl | (simp; done) | (simp [*]; done)), (by first | rfl | (simp; done) | (simp [*]; done)), H', ⟨by have := HK1.out; omega⟩, by repeat (first | exact Drawn0.refl _ | apply Drawn0.step)⟩
        · rw [if_neg c3] at H
          exact absurd H (by simp)
      · rw [if_neg c2] at H
        have c2b0 : decide (x4_1 < (l0.length : Int)) = false := decide_eq_false c2
        clear c2
        obtain rfl := Option.some.inj H
        go_wp2
        repeat (go_quiet (fail); try go_wp2)
        go_ret
        exact ⟨by first | rfl | (simp; done) | (simp [*]; done), by repeat (first | exact Drawn0.refl _ | apply Drawn0.step)⟩
def snowlineref02_cold.l0 : Nat → List (S47) → Int → Int → Option (Int)
  | 0, _, _, _ => none
  | k + 1, x0, x3, x4 => if x4 < (x0.length : Int) then (if 0 ≤ x4 then (snowlineref02_cold.l0 k x0 (wrap64 (x3 + ((rd_T47 x0 x4).f2))) (wrap64 (x4 + 1))) else (none)) else (some x3)
def snowlineref02_cold.f (k : Nat) (l0 : List (S47)) : Option (Int) := snowlineref02_cold.l0 k l0 0 0
set_option maxHeartbeats 8000000 in
set_option maxRecDepth 100000 in
theorem snowlineref02_cold.calls (k : Nat) (A0 : Option Addr) (c0 : Nat) (l0 : List (S47)) (r : Int) (w : World) (hr0 : Kd.C k47 w A0 l0.length l0) (hc0 : l0.length ≤ c0) (h : snowlineref02_cold.f k l0 = some r) :
    Calls Tryz.prog 58 #[.slice A0 l0.length c0] w fun e w' => e = .returned (.int .i64 r) ∧ Drawn0 w w' := by
  have HR0 := Aside0.mk hr0
  have HC0 := Aside0.mk hc0
  clear hr0 hc0
  have H : (snowlineref02_cold.l0 k l0 0 0) = some r := h
  clear h
  have H' := Aside0.mk H
  clear H
  go_enter Tryz.func58, Tryz.ntmps58
  go_wp2
  go_loopg [3, 4] k (fun kq v3 v4 w' => ∃ (x3_1 : Int) (x4_1 : Int), v3 = .int .i64 x3_1 ∧ v4 = .int .i64 x4_1 ∧ Aside0 (snowlineref02_cold.l0 kq l0 x3_1 x4_1 = some r) ∧ Aside0 (kq ≤ k) ∧ Drawn0 w w')
  case atStart => exact ⟨(0), (0), (by first | rfl | (simp; done) | (simp [*]; done)), (by first | rfl | (simp; done) | (simp [*]; done)), H', ⟨Nat.le_refl _⟩, by repeat (first | exact Drawn0.refl _ | apply Drawn0.step)⟩
  case round =>
    clear H'
    obtain ⟨x3_1, x4_1, rfl, rfl, HA, HK1, ⟨m1, rfl⟩⟩ := hrel
    cases gk with
    | zero => exact absurd HA.out (by simp [snowlineref02_cold.l0])
    | succ k1 =>
      have H := HA.out
      clear HA
      simp only [snowlineref02_cold.l0] at H
      by_cases c2 : x4_1 < (l0.length : Int)
      · rw [if_pos c2] at H
        have c2b0 : decide (x4_1 < (l0.length : Int)) = true := decide_eq_true c2
        clear c2
        by_cases c3 : 0 ≤ x4_1
        · rw [if_pos c3] at H
          have c3b0 : decide (0 ≤ x4_1) = true := decide_eq_true c3
          clear c3
          have H' := Aside0.mk H
          clear H
          have p167 : 0 ≤ (x4_1 : Int) := of_decide_eq_true (by first | (with_reducible assumption) | assumption)
          have q167 : x4_1 < (l0.length : Int) := of_decide_eq_true (by first | (with_reducible assumption) | assumption)
          obtain ⟨ad167, e167, hx167_0, hx167_1, hx167_2⟩ := at_T47 HR0.out x4_1 p167 q167
          cases e167
          replace p167 := eq_true p167
          replace q167 := eq_true q167
          go_wp2
          go_roundg k1
          case measure => have := HK1.out; omega
          case rel => exact ⟨(wrap64 (x3_1 + ((rd_T47 l0 x4_1).f2))), (wrap64 (x4_1 + 1)), (by first | rfl | (simp; done) | (simp [*]; done)), (by first | rfl | (simp; done) | (simp [*]; done)), H', ⟨by have := HK1.out; omega⟩, by repeat (first | exact Drawn0.refl _ | apply Drawn0.step)⟩
        · rw [if_neg c3] at H
          exact absurd H (by simp)
      · rw [if_neg c2] at H
        have c2b0 : decide (x4_1 < (l0.length : Int)) = false := decide_eq_false c2
        clear c2
        obtain rfl := Option.some.inj H
        go_wp2
        go_ret
        exact ⟨by first | rfl | (simp; done) | (simp [*]; done), by repeat (first | exact Drawn0.refl _ | apply Drawn0.step)⟩
end Go.Proofs.YtpldcikmlpegpaaGreatDoor.PB
end
section
namespace Go.Proofs.YtpldcikmlpegpaaGreatDoor.PB
open Go.RowKit Go.Proofs.YtpldcikmlpegpaaGreatDoorW.PrintWords Go.Proofs.YtpldcikmlpegpaaGreatDoorW.PrintLast Go.Proofs.YtpldcikmlpegpaaGreatDoorW.PrintMore
attribute [local go_sem] max2_int min2_int max_two min_two max_three min_three max_four min_four   -- for this text's walks alone
set_option linter.unusedVariables false
set_option linter.unusedSimpArgs false
def snowlineref02_Check.l0 : Nat → Int → List (S47) → Option (Int)
  | 0, _, _ => none
  | k + 1, x3, x169000 => if x3 < (x169000.length : Int) then (if 0 ≤ x3 then ((snowlineref02_layer.f ((rd_T47 x169000 x3).f0) ((rd_T47 x169000 x3).f1) ((rd_T47 x169000 x3).f2)).bind fun t170 => (if t170 = true then (snowlineref02_Check.l0 k (wrap64 (x3 + 1)) x169000) else (some 20))) else (none)) else ((snowlineref02_water.f k x169000).bind fun t171 => (if t171 > 65536 then (some 20) else ((snowlineref02_cold.f k x169000).bind fun t172 => (if t172 > 65536 then (some 20) else (some 0)))))
def snowlineref02_Check.f (k : Nat) (l0_0 : List (S47)) : Option (Int) := if (l0_0.length : Int) > 64 then (some 20) else (snowlineref02_Check.l0 k 0 l0_0)
set_option maxHeartbeats 8000000 in
set_option maxRecDepth 100000 in
theorem snowlineref02_Check.calls (k : Nat) (A0_0 : Option Addr) (c0_0 : Nat) (l0_0 : List (S47)) (r : Int) (w : World) (hr0_0 : Kd.C k47 w A0_0 l0_0.length l0_0) (hc0_0 : l0_0.length ≤ c0_0) (h : snowlineref02_Check.f k l0_0 = some r) :
    Calls Tryz.prog 34 #[.agg #[.slice A0_0 l0_0.length c0_0]] w fun e w' => e = .returned (.int .i64 r) ∧ Below w.heap.size w w' := by
  have hu26 := Tryz.underlying26
  have hu47 := Tryz.underlying47
  have HR0_0 := Aside0.mk hr0_0
  have HC0_0 := Aside0.mk hc0_0
  clear hr0_0 hc0_0
  have HB := Aside0.mk (Below.refl w.heap.size w)
  have H : (if (l0_0.length : Int) > 64 then (some 20) else (snowlineref02_Check.l0 k 0 l0_0)) = some r := h
  clear h
  by_cases c2 : (l0_0.length : Int) > 64
  · rw [if_pos c2] at H
    have c2b0 : decide (64 < (l0_0.length : Int)) = true := decide_eq_true c2
    have c2b1 : decide (64 < l0_0.length) = true := decide_eq_true (by omega)
    clear c2
    obtain rfl := Option.some.inj H
    go_enter Tryz.func34, Tryz.ntmps34
    go_wp2_with (first | ((with_reducible refine gate_dst (N := 1) rfl ?_); refine box_event ?hg (N := 1) ?hd (cs := #[.slice A0_0 l0_0.length c0_0]) (t := 26) ?hr ?_; (case hd => rfl); (case hg => rfl); (case hr => first | (go_simp; done) | (go_simp; rfl)); intro gb168 hg w3 hbox hb; have n0_ := Aside0.mk (below_step (by repeat (first | (with_reducible first | exact HB.out | apply below_alloc | apply pw_below_drewN | apply below_drew1) | exact HB.out)) hb); have n1_ := Aside0.mk (hbox); have n2_ := Aside0.mk ((by rw [hg]; exact (below_size (by repeat (first | (with_reducible first | exact HB.out | apply below_alloc | apply pw_below_drewN | apply below_drew1) | exact HB.out))) : w.heap.size ≤ gb168)); have n3_ := Aside0.mk ((by rw [hg]; exact (below_size (by repeat (first | (with_reducible first | exact HB.out | apply below_alloc | apply pw_below_drewN | apply below_drew1) | exact HB.out))) : w.heap.size ≤ gb168)); clear HB; have HB := n0_; have BK168 := n1_; have GW168 := n2_; have GE168 := n3_; clear n0_ n1_ n2_ n3_; clear hb hbox hg; have hcz4_0 : w3.cell? ⟨gb168, 0, none⟩ = some (.slice A0_0 l0_0.length c0_0) := (blk_cell BK168.out 0).trans rfl; have hfz4_0 := blk_frozen BK168.out 0))
    go_ret
    exact ⟨by first | rfl | (simp [errW_none, errW_some] <;> rfl) | (simp [*, errW_none, errW_some] <;> rfl), by repeat (first | (with_reducible first | exact HB.out | apply below_alloc | apply pw_below_drewN | apply below_drew1 | refine below_set ?_ GE168.out) | exact HB.out)⟩
  · rw [if_neg c2] at H
    have c2b0 : decide (64 < (l0_0.length : Int)) = false := decide_eq_false c2
    have c2b1 : decide (64 < l0_0.length) = false := decide_eq_false (by omega)
    clear c2
    have H' := Aside0.mk H
    clear H
    go_enter Tryz.func34, Tryz.ntmps34
    go_wp2_with (first | ((with_reducible refine gate_dst (N := 1) rfl ?_); refine box_event ?hg (N := 1) ?hd (cs := #[.slice A0_0 l0_0.length c0_0]) (t := 26) ?hr ?_; (case hd => rfl); (case hg => rfl); (case hr => first | (go_simp; done) | (go_simp; rfl)); intro gb168 hg w5 hbox hb; have n0_ := Aside0.mk (below_step (by repeat (first | (with_reducible first | exact HB.out | apply below_alloc | apply pw_below_drewN | apply below_drew1) | exact HB.out)) hb); have n1_ := Aside0.mk (hbox); have n2_ := Aside0.mk ((by rw [hg]; exact (below_size (by repeat (first | (with_reducible first | exact HB.out | apply below_alloc | apply pw_below_drewN | apply below_drew1) | exact HB.out))) : w.heap.size ≤ gb168)); have n3_ := Aside0.mk ((by rw [hg]; exact (below_size (by repeat (first | (with_reducible first | exact HB.out | apply below_alloc | apply pw_below_drewN | apply below_drew1) | exact HB.out))) : w.heap.size ≤ gb168)); clear HB; have HB := n0_; have BK168 := n1_; have GW168 := n2_; have GE168 := n3_; clear n0_ n1_ n2_ n3_; clear hb hbox hg; have hcz6_0 : w5.cell? ⟨gb168, 0, none⟩ = some (.slice A0_0 l0_0.length c0_0) := (blk_cell BK168.out 0).trans rfl; have hfz6_0 := blk_frozen BK168.out 0))
    go_loopg [3] k (fun kq v3 w' => ∃ (x3_1 : Int), v3 = .int .i64 x3_1 ∧ Aside0 (snowlineref02_Check.l0 kq x3_1 l0_0 = some r) ∧ Aside0 (kq ≤ k) ∧ Aside0 (w'.heap[gb168]? = some (.cells #[(.slice A0_0 l0_0.length c0_0)] 26 (0, 0))) ∧ Aside0 (Below w.heap.size w w'))
    case atStart => exact ⟨(0), (by first | rfl | (simp; done) | (simp [*]; done)), H', ⟨Nat.le_refl _⟩, ⟨by (with_reducible repeat (first | refine blk_drewN ?_ _ | refine blk_drew ?_ | refine blk_alloc ?_ _)); exact BK168.out⟩, ⟨by repeat (first | (with_reducible first | exact HB.out | apply below_alloc | apply pw_below_drewN | apply below_drew1 | refine below_set ?_ GE168.out) | exact HB.out)⟩⟩
    case round =>
      clear H'
      try clear c2
      try clear c2b0
      try clear c2b1
      try clear p2
      try clear c3
      try clear hcz4_0
      try clear hcz6_0
      try clear hfz4_0
      try clear hfz6_0
      obtain ⟨x3_1, rfl, HA, HK1, BK168, HB⟩ := hrel
      cases gk with
      | zero => exact absurd HA.out (by simp [snowlineref02_Check.l0])
      | succ k1 =>
        have H := HA.out
        clear HA
        simp only [snowlineref02_Check.l0] at H
        by_cases c7 : x3_1 < (l0_0.length : Int)
        · rw [if_pos c7] at H
          have c7b0 : decide (x3_1 < (l0_0.length : Int)) = true := decide_eq_true c7
          clear c7
          by_cases c8 : 0 ≤ x3_1
          · rw [if_pos c8] at H
            have c8b0 : decide (0 ≤ x3_1) = true := decide_eq_true c8
            clear c8
            replace H := Option.bind_eq_some_iff.mp H
            obtain ⟨t170, A90, H⟩ := H
            replace H : (if t170 = true then (snowlineref02_Check.l0 k1 (wrap64 (x3_1 + 1)) l0_0) else (some 20)) = some r := H
            have A9 := Aside0.mk A90
            clear A90
            by_cases c10 : t170 = true
            · subst c10
              have H1 : (snowlineref02_Check.l0 k1 (wrap64 (x3_1 + 1)) l0_0) = some r := by rw [if_pos rfl] at H; exact H
              clear H
              have H := H1
              clear H1
              have H' := Aside0.mk H
              clear H
              have hcz11_0 : wr.cell? ⟨gb168, 0, none⟩ = some (.slice A0_0 l0_0.length c0_0) := (blk_cell BK168.out 0).trans rfl
              have hfz11_0 := blk_frozen BK168.out 0
              have p169 : 0 ≤ (x3_1 : Int) := of_decide_eq_true (by first | (with_reducible assumption) | assumption)
              have q169 : x3_1 < (l0_0.length : Int) := of_decide_eq_true (by first | (with_reducible assumption) | assumption)
              obtain ⟨ad169, e169, hx169_0, hx169_1, hx169_2⟩ := at_T47 HR0_0.out x3_1 p169 q169
              cases e169
              replace hx169_0 := (HB.out.cell (World.block_lt_of_cell? w _ hx169_0)).trans hx169_0
              replace hx169_1 := (HB.out.cell (World.block_lt_of_cell? w _ hx169_1)).trans hx169_1
              replace hx169_2 := (HB.out.cell (World.block_lt_of_cell? w _ hx169_2)).trans hx169_2
              replace p169 := eq_true p169
              replace q169 := eq_true q169
              go_wp2_with (first | ((with_reducible refine gate_callee (f := 56) rfl ?_); refine goesL_ (some 20) rfl rfl Tryz.func56 (by kernel_rfl) rfl #[.agg #[.int .i64 ((rd_T47 l0_0 x3_1).f0), .int .i64 ((rd_T47 l0_0 x3_1).f1), .int .i64 ((rd_T47 l0_0 x3_1).f2)]] rfl (by (try simp only [List.map_toArray, List.map_cons, List.map_nil]); first | done | rfl | (simp only [List.length_drop, List.length_take]; rfl)) ?_; (with_reducible refine (snowlineref02_layer.calls ((rd_T47 l0_0 x3_1).f0) ((rd_T47 l0_0 x3_1).f1) ((rd_T47 l0_0 x3_1).f2) true _ A9.out).mono ?_); rintro e w12 ⟨rfl, hb⟩; refine ⟨_, rfl, ?_⟩; have n0_ := Aside0.mk (blk_below (g := gb168) (o := .cells #[.slice (some ad169) l0_0.length c0_0] 26 (0, 0)) (by (with_reducible repeat (first | refine blk_drewN ?_ _ | refine blk_drew ?_ | refine blk_alloc ?_ _)); exact BK168.out) hb); have n1_ := Aside0.mk (below_step (by repeat (first | (with_reducible first | exact HB.out | apply below_alloc | apply pw_below_drewN | apply below_drew1 | refine below_set ?_ GE168.out) | exact HB.out)) hb); clear BK168; clear HB; have BK168 := n0_; have HB := n1_; clear n0_ n1_; (try clear hb); (try clear hb2); (try clear hk); (try clear hi)))
              go_roundg k1
              case measure => have := HK1.out; omega
              case rel => exact ⟨(wrap64 (x3_1 + 1)), (by first | rfl | (simp; done) | (simp [*]; done)), H', ⟨by have := HK1.out; omega⟩, ⟨by (with_reducible repeat (first | refine blk_drewN ?_ _ | refine blk_drew ?_ | refine blk_alloc ?_ _)); exact BK168.out⟩, ⟨by repeat (first | (with_reducible first | exact HB.out | apply below_alloc | apply pw_below_drewN | apply below_drew1 | refine below_set ?_ GE168.out) | exact HB.out)⟩⟩
            · replace c10 := Bool.eq_false_iff.mpr c10
              subst c10
              have H1 : (some 20) = some r := by rw [if_neg (show ¬ (false = true) by decide)] at H; exact H
              clear H
              have H := H1
              clear H1
              obtain rfl := Option.some.inj H
              have hcz13_0 : wr.cell? ⟨gb168, 0, none⟩ = some (.slice A0_0 l0_0.length c0_0) := (blk_cell BK168.out 0).trans rfl
              have hfz13_0 := blk_frozen BK168.out 0
              have p169 : 0 ≤ (x3_1 : Int) := of_decide_eq_true (by first | (with_reducible assumption) | assumption)
              have q169 : x3_1 < (l0_0.length : Int) := of_decide_eq_true (by first | (with_reducible assumption) | assumption)
              obtain ⟨ad169, e169, hx169_0, hx169_1, hx169_2⟩ := at_T47 HR0_0.out x3_1 p169 q169
              cases e169
              replace hx169_0 := (HB.out.cell (World.block_lt_of_cell? w _ hx169_0)).trans hx169_0
              replace hx169_1 := (HB.out.cell (World.block_lt_of_cell? w _ hx169_1)).trans hx169_1
              replace hx169_2 := (HB.out.cell (World.block_lt_of_cell? w _ hx169_2)).trans hx169_2
              replace p169 := eq_true p169
              replace q169 := eq_true q169
              go_wp2_with (first | ((with_reducible refine gate_callee (f := 56) rfl ?_); refine goesL_ (some 20) rfl rfl Tryz.func56 (by kernel_rfl) rfl #[.agg #[.int .i64 ((rd_T47 l0_0 x3_1).f0), .int .i64 ((rd_T47 l0_0 x3_1).f1), .int .i64 ((rd_T47 l0_0 x3_1).f2)]] rfl (by (try simp only [List.map_toArray, List.map_cons, List.map_nil]); first | done | rfl | (simp only [List.length_drop, List.length_take]; rfl)) ?_; (with_reducible refine (snowlineref02_layer.calls ((rd_T47 l0_0 x3_1).f0) ((rd_T47 l0_0 x3_1).f1) ((rd_T47 l0_0 x3_1).f2) false _ A9.out).mono ?_); rintro e w14 ⟨rfl, hb⟩; refine ⟨_, rfl, ?_⟩; have n0_ := Aside0.mk (blk_below (g := gb168) (o := .cells #[.slice (some ad169) l0_0.length c0_0] 26 (0, 0)) (by (with_reducible repeat (first | refine blk_drewN ?_ _ | refine blk_drew ?_ | refine blk_alloc ?_ _)); exact BK168.out) hb); have n1_ := Aside0.mk (below_step (by repeat (first | (with_reducible first | exact HB.out | apply below_alloc | apply pw_below_drewN | apply below_drew1 | refine below_set ?_ GE168.out) | exact HB.out)) hb); clear BK168; clear HB; have BK168 := n0_; have HB := n1_; clear n0_ n1_; (try clear hb); (try clear hb2); (try clear hk); (try clear hi)))
              go_ret
              exact ⟨by first | rfl | (simp [errW_none, errW_some] <;> rfl) | (simp [*, errW_none, errW_some] <;> rfl), by repeat (first | (with_reducible first | exact HB.out | apply below_alloc | apply pw_below_drewN | apply below_drew1 | refine below_set ?_ GE168.out) | exact HB.out)⟩
          · rw [if_neg c8] at H
            exact absurd H (by simp)
        · rw [if_neg c7] at H
          have c7b0 : decide (x3_1 < (l0_0.length : Int)) = false := decide_eq_false c7
          clear c7
          replace H := Option.bind_eq_some_iff.mp H
          obtain ⟨t171, A150, H⟩ := H
          replace H : (if t171 > 65536 then (some 20) else ((snowlineref02_cold.f k1 l0_0).bind fun t172 => (if t172 > 65536 then (some 20) else (some 0)))) = some r := H
          have A15 := Aside0.mk A150
          clear A150
          by_cases c16 : t171 > 65536
          · rw [if_pos c16] at H
            have c16b0 : decide (65536 < t171) = true := decide_eq_true c16
            clear c16
            obtain rfl := Option.some.inj H
            have hcz17_0 : wr.cell? ⟨gb168, 0, none⟩ = some (.slice A0_0 l0_0.length c0_0) := (blk_cell BK168.out 0).trans rfl
            have hfz17_0 := blk_frozen BK168.out 0
            go_wp2_with (first | ((with_reducible refine gate_callee (f := 57) rfl ?_); refine goesL_ (some 24) rfl rfl Tryz.func57 (by kernel_rfl) rfl #[.slice A0_0 l0_0.length c0_0] rfl (by (try simp only [List.map_toArray, List.map_cons, List.map_nil]); first | done | rfl | (simp only [List.length_drop, List.length_take]; rfl)) ?_; (with_reducible refine (snowlineref02_water.calls k1 _ _ l0_0 t171 _ ?side1 ?side2 A15.out).mono ?_); (case side1 => repeat (first | exact (Kd.C_below HR0_0.out HB.out) | (with_reducible refine Kd.C_alloc ?_ _) | (with_reducible refine Kd.C_drewN ?_ _) | (with_reducible refine Kd.C_drew ?_))); (case side2 => exact HC0_0.out); rintro e w' ⟨rfl, ⟨nd, rfl⟩⟩; refine ⟨_, rfl, ?_⟩))
            go_ret
            exact ⟨by first | rfl | (simp [errW_none, errW_some] <;> rfl) | (simp [*, errW_none, errW_some] <;> rfl), by repeat (first | (with_reducible first | exact HB.out | apply below_alloc | apply pw_below_drewN | apply below_drew1 | refine below_set ?_ GE168.out) | exact HB.out)⟩
          · rw [if_neg c16] at H
            have c16b0 : decide (65536 < t171) = false := decide_eq_false c16
            clear c16
            replace H := Option.bind_eq_some_iff.mp H
            obtain ⟨t172, A180, H⟩ := H
            replace H : (if t172 > 65536 then (some 20) else (some 0)) = some r := H
            have A18 := Aside0.mk A180
            clear A180
            by_cases c19 : t172 > 65536
            · rw [if_pos c19] at H
              have c19b0 : decide (65536 < t172) = true := decide_eq_true c19
              clear c19
              obtain rfl := Option.some.inj H
              have hcz20_0 : wr.cell? ⟨gb168, 0, none⟩ = some (.slice A0_0 l0_0.length c0_0) := (blk_cell BK168.out 0).trans rfl
              have hfz20_0 := blk_frozen BK168.out 0
              go_wp2_with (first | ((with_reducible refine gate_callee (f := 57) rfl ?_); refine goesL_ (some 24) rfl rfl Tryz.func57 (by kernel_rfl) rfl #[.slice A0_0 l0_0.length c0_0] rfl (by (try simp only [List.map_toArray, List.map_cons, List.map_nil]); first | done | rfl | (simp only [List.length_drop, List.length_take]; rfl)) ?_; (with_reducible refine (snowlineref02_water.calls k1 _ _ l0_0 t171 _ ?side1 ?side2 A15.out).mono ?_); (case side1 => repeat (first | exact (Kd.C_below HR0_0.out HB.out) | (with_reducible refine Kd.C_alloc ?_ _) | (with_reducible refine Kd.C_drewN ?_ _) | (with_reducible refine Kd.C_drew ?_))); (case side2 => exact HC0_0.out); rintro e w' ⟨rfl, ⟨nd, rfl⟩⟩; refine ⟨_, rfl, ?_⟩) | (go_at_call 58; (with_reducible refine (snowlineref02_cold.calls k1 _ _ l0_0 t172 _ ?side1 ?side2 A18.out).mono ?_); (case side1 => repeat (first | exact (Kd.C_below HR0_0.out (by repeat (first | (with_reducible first | exact HB.out | apply below_alloc | apply pw_below_drewN | apply below_drew1 | refine below_set ?_ GE168.out) | exact HB.out))) | (with_reducible refine Kd.C_alloc ?_ _) | (with_reducible refine Kd.C_drewN ?_ _) | (with_reducible refine Kd.C_drew ?_))); (case side2 => exact HC0_0.out); rintro e w' ⟨rfl, ⟨nd, rfl⟩⟩))
              go_ret
              exact ⟨by first | rfl | (simp [errW_none, errW_some] <;> rfl) | (simp [*, errW_none, errW_some] <;> rfl), by repeat (first | (with_reducible first | exact HB.out | apply below_alloc | apply pw_below_drewN | apply below_drew1 | refine below_set ?_ GE168.out) | exact HB.out)⟩
            · rw [if_neg c19] at H
              have c19b0 : decide (65536 < t172) = false := decide_eq_false c19
              clear c19
              obtain rfl := Option.some.inj H
              have hcz21_0 : wr.cell? ⟨gb168, 0, none⟩ = some (.slice A0_0 l0_0.length c0_0) := (blk_cell BK168.out 0).trans rfl
              have hfz21_0 := blk_frozen BK168.out 0
              go_wp2_with (first | ((with_reducible refine gate_callee (f := 57) rfl ?_); refine goesL_ (some 24) rfl rfl Tryz.func57 (by kernel_rfl) rfl #[.slice A0_0 l0_0.length c0_0] rfl (by (try simp only [List.map_toArray, List.map_cons, List.map_nil]); first | done | rfl | (simp only [List.length_drop, List.length_take]; rfl)) ?_; (with_reducible refine (snowlineref02_water.calls k1 _ _ l0_0 t171 _ ?side1 ?side2 A15.out).mono ?_); (case side1 => repeat (first | exact (Kd.C_below HR0_0.out HB.out) | (with_reducible refine Kd.C_alloc ?_ _) | (with_reducible refine Kd.C_drewN ?_ _) | (with_reducible refine Kd.C_drew ?_))); (case side2 => exact HC0_0.out); rintro e w' ⟨rfl, ⟨nd, rfl⟩⟩; refine ⟨_, rfl, ?_⟩) | (go_at_call 58; (with_reducible refine (snowlineref02_cold.calls k1 _ _ l0_0 t172 _ ?side1 ?side2 A18.out).mono ?_); (case side1 => repeat (first | exact (Kd.C_below HR0_0.out (by repeat (first | (with_reducible first | exact HB.out | apply below_alloc | apply pw_below_drewN | apply below_drew1 | refine below_set ?_ GE168.out) | exact HB.out))) | (with_reducible refine Kd.C_alloc ?_ _) | (with_reducible refine Kd.C_drewN ?_ _) | (with_reducible refine Kd.C_drew ?_))); (case side2 => exact HC0_0.out); rintro e w' ⟨rfl, ⟨nd, rfl⟩⟩))
              go_ret
              exact ⟨by first | rfl | (simp [errW_none, errW_some] <;> rfl) | (simp [*, errW_none, errW_some] <;> rfl), by repeat (first | (with_reducible first | exact HB.out | apply below_alloc | apply pw_below_drewN | apply below_drew1 | refine below_set ?_ GE168.out) | exact HB.out)⟩
end Go.Proofs.YtpldcikmlpegpaaGreatDoor.PB
end
