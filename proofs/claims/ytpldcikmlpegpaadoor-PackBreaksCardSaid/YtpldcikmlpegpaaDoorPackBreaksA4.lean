/-
A part of the proof of this: The tied card of the law PackBreaks of snowlinelaw02 holds: it answers true for every pack and every steepness, and changes nothing.
-/
import Derived.Deep.RegionLaw
import Derived.Lib.SliceRun
import Derived.Outline
import Derived.Deep.DeepCutAuto
import Derived.IntWalk
import Derived.Test.YtpldcikmlpegpaaDoorPackBreaksA1
import Derived.Test.YtpldcikmlpegpaaDoorPackBreaksA2
import Derived.Test.YtpldcikmlpegpaaDoorPackBreaksA3
section
namespace Go.Proofs.YtpldcikmlpegpaaDoor.Col
open Go.RowKit Go.Proofs.YtpldcikmlpegpaaDoor.PB Go.Proofs.YtpldcikmlpegpaaDoorW.PrintWords Go.Proofs.YtpldcikmlpegpaaDoorW.PrintLast Go.Proofs.YtpldcikmlpegpaaDoorW.PrintMore
def Row (w : World) (g cap : Nat) (xs : List S48) : Prop :=
  ∃ cur : List Value, w.heap[g]? = some (.cells cur.toArray 48 (0, 0)) ∧ xs.length ≤ cap ∧ cap ≤ maxLen ∧ cur.length = cap * 3 ∧ cur.take (xs.length * 3) = xs.flatMap lcells
theorem reps_flat : ∀ (xs : List S48) (cs : List Value) (W : World) (base : Nat) (ok : Nat → Prop), Reps (k48.M W base ok) 3 xs cs → cs = xs.flatMap lcells := by
  intro xs
  induction xs with
  | nil => intro cs W base ok h; exact List.eq_nil_of_length_eq_zero (by simpa using h.1)
  | cons x xs ih =>
    intro cs W base ok h
    have h0 := k48_openM (h.2 0 x rfl)
    simp only [Nat.zero_mul, List.drop_zero] at h0
    have h1 := ih (cs.drop 3) W base ok ⟨by rw [List.length_drop, h.1, List.length_cons]; omega, fun j p hp => by
      have := h.2 (j + 1) p (by simpa using hp)
      rw [List.drop_drop]
      rwa [show 3 + j * 3 = (j + 1) * 3 by omega]⟩
    rw [List.flatMap_cons, ← h1]
    have e : cs = cs.take 3 ++ cs.drop 3 := (List.take_append_drop 3 cs).symm
    rw [h0] at e
    exact e
theorem flat_reps (xs : List S48) (W : World) (base : Nat) (ok : Nat → Prop) : Reps (k48.M W base ok) 3 xs (xs.flatMap lcells) := by
  refine ⟨flat_len xs, fun j p hp => ?_⟩
  have hj : j < xs.length := (List.getElem?_eq_some_iff.1 hp).1
  have e : ((xs.flatMap lcells).drop (j * 3)).take 3 = lcells p := by
    apply List.ext_getElem?
    intro i
    by_cases hi : i < 3
    · rw [List.getElem?_take_of_lt hi, List.getElem?_drop, flat_get xs j i hj hi, List.getD_eq_getElem?_getD, hp]
      rfl
    · rw [List.getElem?_eq_none (by simp; omega), List.getElem?_eq_none (by simp [lcells]; omega)]
  rw [e]
  exact k48_mkM W base ok p
theorem Row.of_R {w : World} {base : Nat} {v : Value} {xs : List S48} {ok : Nat → Prop} (h : Kd.R k48 48 w base ok v xs) :
    (v = .slice none 0 0 ∧ xs = []) ∨ ∃ g cap, v = .slice (some ⟨g, 0, none⟩) xs.length cap ∧ base ≤ g ∧ Row w g cap xs := by
  obtain ⟨_, inner, ⟨hl, hh⟩, hr⟩ := h
  rcases hh with ⟨rfl, h0⟩ | ⟨g, cap, cur, rfl, hg, hb, hn, hm, hs, ht⟩
  · exact .inl ⟨rfl, List.eq_nil_of_length_eq_zero h0⟩
  · refine .inr ⟨g, cap, rfl, hg, cur.toList, by simpa using hb, hn, hm, by rw [Array.length_toList]; exact hs, ?_⟩
    rw [show xs.length * 3 = xs.length * k48.sz from rfl, ht]
    exact reps_flat xs inner _ _ _ hr
theorem Row.to_R {w : World} {g cap : Nat} {xs : List S48} (h : Row w g cap xs) {base : Nat} (hb : base ≤ g) : Kd.R k48 48 w base (fun _ => True) (.slice (some ⟨g, 0, none⟩) xs.length cap) xs := by
  obtain ⟨cur, h1, h2, h3, h4, h5⟩ := h
  exact ⟨fun _ _ => trivial, xs.flatMap lcells, ⟨flat_len xs, .inr ⟨g, cap, cur.toArray, rfl, hb, h1, h2, h3, by rw [List.size_toArray]; exact h4, h5⟩⟩, flat_reps xs _ _ _⟩
section
variable {w : World} {g cap : Nat} {xs : List S48}
theorem Row.layer (h : Row w g cap xs) (i j : Nat) (hi : i < xs.length) (hj : j < 3) : w.cell? ⟨g, i * 3 + j, none⟩ = (lcells (xs.getD i z48))[j]? := by
  obtain ⟨cur, h1, h2, h3, h4, h5⟩ := h
  rw [blk_cell h1, List.getElem?_toArray, ← flat_get xs i j hi hj, ← h5, List.getElem?_take_of_lt (by omega)]
theorem Row.ice (h : Row w g cap xs) (i : Nat) (hi : i < xs.length) : w.cell? ⟨g, i * 3, none⟩ = some (.int .i64 (xs.getD i z48).f0) := h.layer i 0 hi (by omega)
theorem Row.wet (h : Row w g cap xs) (i : Nat) (hi : i < xs.length) : w.cell? ⟨g, i * 3 + 1, none⟩ = some (.int .i64 (xs.getD i z48).f1) := h.layer i 1 hi (by omega)
theorem Row.cold (h : Row w g cap xs) (i : Nat) (hi : i < xs.length) : w.cell? ⟨g, i * 3 + 2, none⟩ = some (.int .i64 (xs.getD i z48).f2) := h.layer i 2 hi (by omega)
theorem Row.free (h : Row w g cap xs) (k : Nat) : w.frozen? ⟨g, k, none⟩ = false := by obtain ⟨cur, h1, _⟩ := h; exact blk_frozen h1 k
theorem Row.lt (h : Row w g cap xs) : g < w.heap.size := by obtain ⟨cur, h1, _⟩ := h; exact blk_lt h1
theorem Row.le (h : Row w g cap xs) : xs.length ≤ cap := by obtain ⟨cur, _, h2, _⟩ := h; exact h2
theorem Row.max (h : Row w g cap xs) : cap ≤ maxLen := by obtain ⟨cur, _, _, h3, _⟩ := h; exact h3
theorem Row.some_ (h : Row w g cap xs) (k : Nat) (hk : k < cap * 3) : (w.cell? ⟨g, k, none⟩).isSome = true := by
  obtain ⟨cur, h1, h2, h3, h4, h5⟩ := h
  rw [blk_cell h1, List.getElem?_toArray, List.getElem?_eq_getElem (by omega)]
  rfl
theorem Row.drew (h : Row w g cap xs) : Row w.drew g cap xs := h
theorem Row.drewN (h : Row w g cap xs) (n : Nat) : Row (w.drewN n) g cap xs := h
theorem Row.below {w' : World} (h : Row w g cap xs) (hb : Below w.heap.size w w') : Row w' g cap xs := by
  obtain ⟨cur, h1, h2⟩ := h
  exact ⟨cur, blk_below h1 hb, h2⟩
theorem KeepG.setCells (g : Nat) : ∀ (vs : List Value) (o : Nat) (w : World), KeepG g w (w.setCells g o vs)
  | [], _, _ => KeepG.refl _ _
  | v :: r, o, w => (KeepG.set g w o v).trans (KeepG.setCells g r (o + 1) _)
theorem heap_setCells (g : Nat) (t : TypeId) : ∀ (vs : List Value) (o : Nat) (w : World) (cur : List Value), w.heap[g]? = some (.cells cur.toArray t (0, 0)) → o + vs.length ≤ cur.length → (w.setCells g o vs).heap[g]? = some (.cells (splice cur o vs).toArray t (0, 0))
  | [], o, w, cur, h, _ => by simpa [splice, World.setCells] using h
  | v :: r, o, w, cur, h, hl => by
    have h1 := blk_set h o v
    rw [List.setIfInBounds_toArray] at h1
    have ih := heap_setCells g t r (o + 1) (w.setCell ⟨g, o, none⟩ v) (cur.set o v) h1 (by simp at hl ⊢; omega)
    rw [World.setCells, ih]
    have e := list_seg_step cur o v r (by simp at hl; omega)
    unfold splice
    simp only [List.length_cons]
    simp only [List.append_assoc] at e
    rw [e]
theorem Row.lay (h : Row w g cap xs) (o : Nat) (vs : List Value) (ys : List S48) (ho : o + vs.length ≤ cap * 3) (hl : ys.length ≤ cap)
    (e : ∀ cur : List Value, cur.length = cap * 3 → cur.take (xs.length * 3) = xs.flatMap lcells → (splice cur o vs).take (ys.length * 3) = ys.flatMap lcells) : Row (w.setCells g o vs) g cap ys := by
  obtain ⟨cur, h1, h2, h3, h4, h5⟩ := h
  exact ⟨splice cur o vs, heap_setCells g _ vs o w cur h1 (by omega), hl, h3, by rw [length_splice _ _ _ (by omega)]; exact h4, e cur h4 h5⟩
theorem Row.put (h : Row w g cap xs) (i : Nat) (hi : i < xs.length) (x y z : Int) :
    Row (((w.setCell ⟨g, i * 3, none⟩ (.int .i64 x)).setCell ⟨g, i * 3 + 1, none⟩ (.int .i64 y)).setCell ⟨g, i * 3 + 2, none⟩ (.int .i64 z)) g cap (xs.set i ⟨x, y, z⟩) := by
  have hle := h.le
  refine Row.lay h (i * 3) (lcells ⟨x, y, z⟩) (xs.set i ⟨x, y, z⟩) (by simp [lcells]; omega) (by simpa using hle) (fun cur hc ht => ?_)
  have hL : (lcells ⟨x, y, z⟩).length = 3 := rfl
  apply List.ext_getElem?
  intro k
  by_cases hk : k < xs.length * 3
  · rw [List.getElem?_take_of_lt (by simpa using hk)]
    have ek : k = k / 3 * 3 + k % 3 := by omega
    have h3 : k % 3 < 3 := by omega
    have hk3 : k / 3 < xs.length := by omega
    have e2 : ((xs.set i ⟨x, y, z⟩).flatMap lcells)[k]? = (lcells ((xs.set i ⟨x, y, z⟩).getD (k / 3) z48))[k % 3]? := by
      conv => lhs; rw [ek]
      exact flat_get _ _ _ (by simpa using hk3) h3
    have e3 : cur[k]? = (lcells (xs.getD (k / 3) z48))[k % 3]? := by
      have : (cur.take (xs.length * 3))[k]? = cur[k]? := List.getElem?_take_of_lt hk
      rw [← this, ht]
      conv => lhs; rw [ek]
      exact flat_get _ _ _ hk3 h3
    rw [e2]
    unfold splice
    by_cases hki : k / 3 = i
    · rw [List.getElem?_append_right (by simp; omega), List.getElem?_append_left (by simp [hL]; omega)]
      have e4 : k - (cur.take (i * 3)).length = k % 3 := by simp; omega
      rw [e4, hki]
      simp [List.getD_eq_getElem?_getD, hi]
    · have e5 : (xs.set i ⟨x, y, z⟩).getD (k / 3) z48 = xs.getD (k / 3) z48 := by
        simp [List.getD_eq_getElem?_getD, List.getElem?_set_ne (Ne.symm hki)]
      rw [e5, ← e3]
      by_cases hlt : k < i * 3
      · rw [List.getElem?_append_left (by simp; omega), List.getElem?_take_of_lt hlt]
      · rw [List.getElem?_append_right (by simp; omega), List.getElem?_append_right (by simp [hL]; omega), List.getElem?_drop]
        congr 1
        simp [hL]
        omega
  · rw [List.getElem?_eq_none (by simp; omega), List.getElem?_eq_none (by rw [flat_len]; simp; omega)]
end
end Go.Proofs.YtpldcikmlpegpaaDoor.Col
end
section
namespace Go.Proofs.YtpldcikmlpegpaaDoor.Col
open Go.RowKit Go.Proofs.YtpldcikmlpegpaaDoor.PB Go.Proofs.YtpldcikmlpegpaaDoorW.PrintWords Go.Proofs.YtpldcikmlpegpaaDoorW.PrintLast Go.Proofs.YtpldcikmlpegpaaDoorW.PrintMore
theorem run_clear_wide {P : Program} (w : World) (t e ty : TypeId) (z : Value) (ht : P.underlying t = some (.slice e)) (hv : ∀ w, (zeroValue e).run P w = .ok z w) (b o n c : Nat) (hn : 0 < n) (Z : List Value) (hZ : (Builtin.zeroCells z.cells n).toList = Z) (h1 : ∀ v ∈ Z, v.oneCell' = true)
    (hc : ∀ j, j < Z.length → (w.cell? ⟨b, o + j, none⟩).isSome = true) (hf : ∀ j, j < Z.length → w.frozen? ⟨b, o + j, none⟩ = false) :
    (Builtin.clear_ #[t] ty #[.slice (some ⟨b, o, none⟩) n c]).run P w = .ok (.tuple #[]) (w.setCells b o Z) := by
  have hst := run_storeCells_cells (P := P) b o Z 0 w (by simpa using hc) (by simpa using hf) h1
  simp only [Nat.add_zero] at hst
  obtain ⟨m, rfl⟩ : ∃ m, n = m + 1 := ⟨n - 1, by omega⟩
  simp [Builtin.clear_, run_underlying ht, hv, hZ, hst]
theorem zero_layer (w : World) : (zeroValue 48).run Tryd.prog w = .ok (.agg #[.int .i64 0, .int .i64 0, .int .i64 0]) w := by kernel_rfl
theorem zeros_len (n : Nat) : (Builtin.zeroCells (Value.agg #[.int .i64 0, .int .i64 0, .int .i64 0]).cells n).toList.length = n * 3 := by
  simp [Builtin.zeroCells, Value.cells]
theorem zeros_one (n : Nat) : ∀ v ∈ (Builtin.zeroCells (Value.agg #[.int .i64 0, .int .i64 0, .int .i64 0]).cells n).toList, v.oneCell' = true := by
  intro v hv
  simp only [Builtin.zeroCells, Value.cells, Array.toList_map, List.mem_map] at hv
  obtain ⟨i, _, rfl⟩ := hv
  have h3 : i % 3 = 0 ∨ i % 3 = 1 ∨ i % 3 = 2 := by omega
  show ((#[Value.int .i64 0, .int .i64 0, .int .i64 0] : Array Value)[i % 3]!).oneCell' = true
  rcases h3 with h | h | h <;> rw [h] <;> rfl
theorem flat_drop (xs : List S48) : ∀ (i : Nat), (xs.drop i).flatMap lcells = (xs.flatMap lcells).drop (i * 3) := by
  induction xs with
  | nil => intro i; simp
  | cons x xs ih =>
    intro i
    cases i with
    | zero => simp
    | succ i =>
      rw [List.drop_succ_cons, ih, List.flatMap_cons, List.drop_append]
      have e1 : (lcells x).drop ((i + 1) * 3) = [] := List.drop_eq_nil_of_le (by simp [lcells]; omega)
      have e2 : (i + 1) * 3 - (lcells x).length = i * 3 := by simp [lcells]; omega
      rw [e1, e2, List.nil_append]
theorem flat_take (xs : List S48) : ∀ (i : Nat), (xs.take i).flatMap lcells = (xs.flatMap lcells).take (i * 3) := by
  induction xs with
  | nil => intro i; simp
  | cons x xs ih =>
    intro i
    cases i with
    | zero => simp
    | succ i =>
      rw [List.take_succ_cons, List.flatMap_cons, ih, List.flatMap_cons, List.take_append]
      have e1 : (lcells x).take ((i + 1) * 3) = lcells x := List.take_of_length_le (by simp [lcells]; omega)
      have e2 : (i + 1) * 3 - (lcells x).length = i * 3 := by simp [lcells]; omega
      rw [e1, e2]
set_option maxHeartbeats 4000000 in
set_option maxRecDepth 1000000 in
theorem delete_calls (g cap i j : Nat) (xs : List S48) (w : World) (hr : Row w g cap xs) (hij : i < j) (hj : j ≤ xs.length) :
    Calls Tryd.prog 70 #[.slice (some ⟨g, 0, none⟩) xs.length cap, .int .i64 i, .int .i64 j] w fun e w' => e = .returned (.slice (some ⟨g, 0, none⟩) (i + (xs.length - j)) cap) ∧ Row w' g cap (xs.take i ++ xs.drop j) ∧ KeepG g w w' := by
  have hcap : xs.length ≤ cap := hr.le
  have hmax : cap ≤ 9223372036854775807 := by have := hr.max; unfold maxLen at this; omega
  obtain ⟨i0, hi0, hz0, hz1, hz2⟩ := info_parts info48
  obtain ⟨n, hn⟩ : ∃ n, xs.length = n := ⟨_, rfl⟩
  obtain ⟨news, hnews⟩ : ∃ news, (xs.drop j).flatMap lcells = news := ⟨_, rfl⟩
  have hlen : news.length = (n - j) * 3 := by rw [← hnews, flat_len, List.length_drop, hn]
  obtain ⟨A, hA, hsrc⟩ : ∃ A : Addr, (if cap = j then some (⟨g, 0, none⟩ : Addr) else some ⟨g, j * 3, none⟩) = some A ∧ Hid (∀ t u, news[t]? = some u → w.drew.cell? (A.add t) = some u) := by
    by_cases h : cap = j
    · refine ⟨⟨g, 0, none⟩, by simp [h], fun t u hu => ?_⟩
      have h0 : news.length = 0 := by rw [hlen]; omega
      rw [List.length_eq_zero_iff.1 h0] at hu
      simp at hu
    · refine ⟨⟨g, j * 3, none⟩, by simp [h], fun t u hu => ?_⟩
      have ht : t < (n - j) * 3 := by have := (List.getElem?_eq_some_iff.1 hu).1; rwa [hlen] at this
      rw [Addr.add_lit]
      have e : j * 3 + t = (j + t / 3) * 3 + t % 3 := by omega
      rw [e]
      show w.cell? _ = _
      rw [hr.layer (j + t / 3) (t % 3) (by omega) (by omega), ← flat_get xs _ _ (by omega) (by omega), ← e, ← hu, ← hnews, flat_drop, List.getElem?_drop]
  have s1 : Hid (news.length = (n - j) * 3) := hlen
  have s2 : Hid (∀ u ∈ news, u.oneCell' = true) := by rw [← hnews]; exact flat_one _
  have s3 : Hid (∀ t, t < news.length → (w.drew.cell? ⟨g, 0 + i * 3 + t, none⟩).isSome = true ∧ w.drew.frozen? ⟨g, 0 + i * 3 + t, none⟩ = false) := by
    intro t ht
    rw [hlen] at ht
    exact ⟨hr.some_ _ (by omega), hr.free _⟩
  obtain ⟨W1, hW1⟩ : ∃ W1, W1 = w.drew.setCells g (0 + i * 3) news := ⟨_, rfl⟩
  have hlast : i + (n - j) < n := by omega
  have hr1 : Row W1 g cap (xs.take i ++ xs.drop j) := by
    rw [hW1]
    refine hr.drew.lay (0 + i * 3) news (xs.take i ++ xs.drop j) (by omega) (by simp; omega) (fun cur hc ht => ?_)
    have e1 : (xs.take i ++ xs.drop j).length * 3 = i * 3 + news.length := by rw [hlen]; simp; omega
    rw [e1, List.flatMap_append, hnews, flat_take, ← ht]
    unfold splice
    rw [Nat.zero_add, ← List.append_assoc, List.take_append_of_le_length (by simp; omega), List.take_of_length_le (by simp; omega), List.take_take]
    rw [hn, Nat.min_eq_left (by omega)]
  have K1 : Aside0 (KeepG g w W1) := ⟨by rw [hW1]; exact (KeepG.drew g w).trans (KeepG.setCells _ _ _ _)⟩
  have hl1 : (xs.take i ++ xs.drop j).length = i + (n - j) := by simp; omega
  obtain ⟨Z, hZ⟩ : ∃ Z, (Builtin.zeroCells (Value.agg #[.int .i64 0, .int .i64 0, .int .i64 0]).cells (n - (i + (n - j)))).toList = Z := ⟨_, rfl⟩
  have hZl : Z.length = (n - (i + (n - j))) * 3 := by rw [← hZ]; exact zeros_len _
  have hcl : ∀ ty, (Builtin.clear_ #[22] ty #[.slice (some ⟨g, (i + (n - j)) * 3, none⟩) (n - (i + (n - j))) (cap - (i + (n - j)))]).run Tryd.prog W1 = .ok (.tuple #[]) (W1.setCells g ((i + (n - j)) * 3) Z) :=
    fun ty => run_clear_wide W1 _ _ ty _ Tryd.underlying22 zero_layer g ((i + (n - j)) * 3) _ _ (by omega) Z hZ (by rw [← hZ]; exact zeros_one _) (fun t ht => hr1.some_ _ (by omega)) (fun t ht => hr1.free _)
  have R2 : Aside0 (Row (W1.setCells g ((i + (n - j)) * 3) Z) g cap (xs.take i ++ xs.drop j)) := by
    refine ⟨hr1.lay _ Z _ (by omega) (by omega) (fun cur hc ht => ?_)⟩
    unfold splice
    rw [hl1] at ht ⊢
    rw [List.take_append_of_le_length (by simp; omega), List.take_take, Nat.min_self]
    exact ht
  have hW : Hid (W1 = w.drew.setCells g (0 + i * 3) news) := hW1
  have hic : i ≤ cap := by omega
  have hjc : j ≤ cap := by omega
  rw [hn] at hj hcap ⊢
  have i1 : (0 : Int) ≤ (i : Int) := by omega
  have i2 : (i : Int) ≤ (j : Int) := by omega
  have i3 : (j : Int) ≤ (n : Int) := by omega
  have i4 : (n : Int) ≤ (cap : Int) := by omega
  have z0 : ((i : Int) == (j : Int)) = false := by simp; omega
  clear hW1 hr1 hr hlen hnews hl1 hZ hZl hn
  go_enter Tryd.func70, Tryd.ntmps70
  go_upto_region 5 with (fail)
  go_region_law (refine step_append_room rfl (.tmp 22) (.tmp 25) 22 rfl 48 i0 3 Tryd.underlying22 hi0 hz1 g 0 i cap (by simp [Act.eval, Act.put]) A (n - j) (cap - j) news (by simp [Act.eval, Act.put]) s1.out hsrc.out s2.out (by omega) s3.out ?_; rw [← hW.out])
  go_wp2
  go_ret
  exact ⟨rfl, R2.out, K1.out.trans (KeepG.setCells _ _ _ _)⟩
theorem delete_calls' (g cap i j n : Nat) (I J : Int) (xs : List S48) (w : World) (hn : xs.length = n) (hI : I = (i : Int)) (hJ : J = (j : Int)) (hr : Row w g cap xs) (hij : i < j) (hj : j ≤ n) :
    Calls Tryd.prog 70 #[.slice (some ⟨g, 0, none⟩) n cap, .int .i64 I, .int .i64 J] w fun e w' => e = .returned (.slice (some ⟨g, 0, none⟩) (i + (n - j)) cap) ∧ Row w' g cap (xs.take i ++ xs.drop j) ∧ KeepG g w w' := by
  subst hn hI hJ
  exact delete_calls g cap i j xs w hr hij hj
set_option maxHeartbeats 1000000 in
set_option maxRecDepth 100000 in
theorem clone_calls (A : Option Addr) (cap : Nat) (l : List S48) (w : World) (hr : Kd.C k48 w A l.length l) (hl : l.length ≤ 64) :
    Calls Tryd.prog 68 #[.slice A l.length cap] w fun e w' => ∃ v, e = .returned v ∧ Kd.R k48 48 w' w.heap.size (fun _ => True) v l ∧ Below w.heap.size w w' := by
  have HR := Aside0.mk hr
  have HL := Aside0.mk hl
  have heq := fun (w : World) => Lib.run_eql_slice_nil (P := Tryd.prog) w 22 48 A l.length cap 0 0 Tryd.underlying22
  clear hr hl
  cases A with
  | none =>
    have H0 : Aside0 (l = []) := ⟨by
      cases l with
      | nil => rfl
      | cons x xs => obtain ⟨ad, e, _⟩ := HR.out.2.2 (by simp); cases e⟩
    simp only [Option.isNone_none] at heq
    go_enter Tryd.func68, Tryd.ntmps68
    go_wp2
    go_ret
    obtain rfl := H0.out
    exact ⟨_, rfl, Kd.R_nil _ _ _ _ _, Below.refl _ _⟩
  | some a =>
    simp only [Option.isNone_some] at heq
    go_enter Tryd.func68, Tryd.ntmps68
    go_wp2_with (first | ((with_reducible refine gate_dst (N := 5) rfl ?_); refine Kd.R_lit k48 _ 48 ?hg (N := 5) ?hd (xs := ([] : List (S48))) (inner := []) (ok := fun _ => True) (okp := fun _ => True) ?hr ?hp (fun _ hk => hk) trivial (Below.refl _ _) (Nat.le_refl _) (by simp) ?_; (case hd => rfl); (case hg => rfl); (case hr => first | (go_simp; done) | (go_simp; rfl)); (case hp => exact (Reps.none _ _)); intro v1 w4 ho5 hb hg_ hnew_; have HO := Aside0.mk ho5; have HB := Aside0.mk hb; clear hg_ hnew_ hb ho5) | ((with_reducible refine gate_builtin (b := .append) (xs := #[.tmp 5, .tmp 6]) rfl ?_); at_builtin; refine Kd.R_append_rows k48 (w0 := w) w.heap.size rfl (.tmp 5) (.tmp 6) 22 48 (.agg #[(.int .i64 0), (.int .i64 0), (.int .i64 0)]) 24 rfl Tryd.underlying22 info48 rfl (by decide) (by omega) v1 [] l _ _ _ (fun _ => True) (fun _ => False) rfl rfl HO.out (Kd.C_below HR.out HB.out) (fun _ _ h => h) (fun _ h => h.elim) (fun _ _ => trivial) HB.out HB.out.size ?aL ?_; (case aL => have := HL.out; simp only [List.length_nil]; omega); intro v2 w6 ho hb hg hat; have HO6 := Aside0.mk ho; have HB6 := Aside0.mk hb; clear ho hb hg hat))
    go_ret
    exact ⟨_, rfl, HO6.out, HB6.out⟩
end Go.Proofs.YtpldcikmlpegpaaDoor.Col
end
section
namespace Go.Proofs.YtpldcikmlpegpaaDoor.PB
open Go.RowKit Go.Proofs.YtpldcikmlpegpaaDoor.Col Go.Proofs.YtpldcikmlpegpaaDoorW.PrintWords Go.Proofs.YtpldcikmlpegpaaDoorW.PrintLast Go.Proofs.YtpldcikmlpegpaaDoorW.PrintMore
attribute [local go_sem] max2_int min2_int max_two min_two
def joinW (a b : S48) : S48 :=
  ⟨wrap64 ((wrap64 (a.f0 + b.f0)) + (mn (wrap64 (a.f1 + b.f1)) (wrap64 (a.f2 + b.f2)))), wrap64 ((wrap64 (a.f1 + b.f1)) - (mn (wrap64 (a.f1 + b.f1)) (wrap64 (a.f2 + b.f2)))), wrap64 ((wrap64 (a.f2 + b.f2)) - (mn (wrap64 (a.f1 + b.f1)) (wrap64 (a.f2 + b.f2))))⟩
theorem joined_calls (a b : S48) (w : World) :
    Calls Tryd.prog 69 #[.agg #[.int .i64 a.f0, .int .i64 a.f1, .int .i64 a.f2], .agg #[.int .i64 b.f0, .int .i64 b.f1, .int .i64 b.f2]] w fun e w' => e = .returned (.agg #[.int .i64 (joinW a b).f0, .int .i64 (joinW a b).f1, .int .i64 (joinW a b).f2]) ∧ Below w.heap.size w w' :=
  pack_joined.calls a.f0 a.f1 a.f2 b.f0 b.f1 b.f2 _ _ _ w rfl
def pairW (xs : List S48) (i : Nat) : Int := wrap64 ((xs.getD i z48).f0 + (xs.getD (i + 1) z48).f0)
def leastW (xs : List S48) : Nat → Nat → Nat → Nat
  | 0, _, a => a
  | d + 1, i, a => leastW xs d (i + 1) (if pairW xs i < pairW xs a then i else a)
def joinOnce (xs : List S48) : List S48 :=
  let a := leastW xs (xs.length - 1) 0 0
  let ys := xs.set a (joinW (xs.getD a z48) (xs.getD (a + 1) z48))
  ys.take (a + 1) ++ ys.drop (a + 2)
def joinsW (n : Int) : Nat → List S48 → List S48
  | 0, xs => xs
  | k + 1, xs => if n < (xs.length : Int) then joinsW n k (joinOnce xs) else xs
def pack_Joined.f (l : List S48) (n : Int) : Option (List S48 × Int) :=
  (pack_Check.f 200 l).bind fun e => if e = 0 then (if 1 ≤ n ∧ n ≤ 64 then some (joinsW n l.length l, 0) else some ([], 1)) else some ([], e)
theorem wrap_small (x : Int) (h0 : -9223372036854775808 ≤ x) (h1 : x ≤ 9223372036854775807) : wrap64 x = x := by
  unfold wrap64
  omega
theorem drewN_two (w : World) (a b : Nat) : (w.drewN a).drewN b = w.drewN (a + b) := by
  simp [World.drewN, Nat.add_assoc]
set_option maxRecDepth 100000 in
set_option maxHeartbeats 4000000 in
theorem pack_Joined.calls (A0_0 : Option Addr) (c0_0 : Nat) (l0_0 : List (S48)) (a1 : Int) (r1 : List (S48)) (r2 : Int) (w : World) (hr0_0 : Kd.C k48 w A0_0 l0_0.length l0_0) (hc0_0 : l0_0.length ≤ c0_0) (h : pack_Joined.f l0_0 a1 = some (r1, r2)) :
    Calls Tryd.prog 29 #[.agg #[.slice A0_0 l0_0.length c0_0], .int .i64 a1] w fun e w' => ∃ v0_ : Value, e = .returned (.tuple #[.agg #[v0_], .int .i64 r2]) ∧ Kd.R k48 48 w' w.heap.size (fun _ => True) v0_ r1 ∧ Below w.heap.size w w' := by
  have hu24 := Tryd.underlying24
  have hu48 := Tryd.underlying48
  have HR := Aside0.mk hr0_0
  have HC := Aside0.mk hc0_0
  clear hr0_0 hc0_0
  unfold pack_Joined.f at h
  replace h := Option.bind_eq_some_iff.mp h
  obtain ⟨e1, E1, h⟩ := h
  have HE1 := Aside0.mk E1
  have HH := Aside0.mk h
  clear E1 h
  go_enter Tryd.func29, Tryd.ntmps29
  go_upto_region 1 with (fail)
  obtain ⟨B, hB⟩ : ∃ B, w.heap.size = B := ⟨_, rfl⟩
  obtain ⟨V1, hV1⟩ : ∃ W1, w.alloc (.cells #[.slice A0_0 l0_0.length c0_0] 24 (0, 0)) = W1 := ⟨_, rfl⟩
  obtain ⟨W1, hW1⟩ : ∃ W1, V1.alloc (.cells #[.slice none 0 0] 24 (0, 0)) = W1 := ⟨_, rfl⟩
  have s1 : V1.heap.size = B + 1 := by rw [← hV1, ← hB]; simp
  have s3 : W1.heap.size = B + 2 := by rw [← hW1]; simp [s1]
  have b1 : Below B w V1 := by rw [← hV1, ← hB]; exact (Below.refl _ _).alloc (Nat.le_refl _) _
  have b3 : Below B w W1 := by rw [← hW1]; exact b1.alloc (by omega) _
  have p0 : W1.heap[B]? = some (.cells #[.slice A0_0 l0_0.length c0_0] 24 (0, 0)) := by rw [← hW1]; refine blk_alloc ?_ _; rw [← hV1, ← hB]; exact blk_new _ _
  have p2 : W1.heap[B + 1]? = some (.cells #[.slice none 0 0] 24 (0, 0)) := by rw [← hW1, ← s1]; exact blk_new _ _
  rw [hV1, hW1, hB]
  have K : Aside0 (∀ wX : World, Below W1.heap.size W1 wX → wX.heap[B]? = some (.cells #[.slice A0_0 l0_0.length c0_0] 24 (0, 0)) ∧ wX.heap[B + 1]? = some (.cells #[.slice none 0 0] 24 (0, 0))) :=
    ⟨fun wX hb => ⟨blk_below p0 hb, blk_below p2 hb⟩⟩
  have HS3 := Aside0.mk s3
  have HB3 := Aside0.mk b3
  have HBq := Aside0.mk hB
  have F : Aside0 (∀ (wX : World) (v : Value), Below W1.heap.size W1 wX → Below w.heap.size w (wX.setCell ⟨B + 1, 0, none⟩ v)) :=
    ⟨fun wX v hb => by rw [HBq.out]; exact (HB3.out.trans (hb.mono (by rw [HS3.out]; omega))).setCell (p := ⟨B + 1, 0, none⟩) (by show B ≤ B + 1; omega) v⟩
  have q0 : W1.cell? ⟨B, 0, none⟩ = some (.slice A0_0 l0_0.length c0_0) := (blk_cell p0 0).trans rfl
  have HR1 : Aside0 (Kd.C k48 W1 A0_0 l0_0.length l0_0) := ⟨Kd.C_below HR.out (by rw [HBq.out]; exact HB3.out)⟩
  clear hV1 hW1 s1 s3 b1 b3 p0 p2 hB
  go_upto_if 13 with (first | (go_at_call 25; refine (pack_Check.calls 200 A0_0 c0_0 l0_0 e1 _ HR1.out HC.out HE1.out).mono ?_; rintro e w7 ⟨rfl, hb⟩; have HB7 := Aside0.mk hb; clear hb q0))
  by_cases h1 : e1 = 0
  · have z0 : (e1 != 0) = false := by simp [h1]
    have h2 := HH.out
    rw [if_pos h1] at h2
    by_cases hn : 1 ≤ a1 ∧ a1 ≤ 64
    · rw [if_pos hn] at h2
      simp only [Option.some.injEq, Prod.mk.injEq] at h2
      obtain ⟨h3, rfl⟩ := h2
      have H3 := Aside0.mk h3
      have HN := Aside0.mk hn
      have HL : Aside0 (l0_0.length ≤ 64) := ⟨by
        have := HE1.out
        rw [h1] at this
        unfold pack_Check.f at this
        split at this
        · simp at this
        · omega⟩
      have hpf : Aside0 (pack_from.f a1 1 64 = some true) := ⟨by unfold pack_from.f; rw [if_pos hn.1]; simp [hn.2]⟩
      clear h3 hn h1
      obtain ⟨k0, k2⟩ := K.out _ HB7.out
      have q7 : w7.cell? ⟨B, 0, none⟩ = some (.slice A0_0 l0_0.length c0_0) := (blk_cell k0 0).trans rfl
      clear k0 k2
      go_upto_region 6 with (first | (go_at_call 67; refine (pack_from.calls a1 1 64 true _ hpf.out).mono ?_; rintro e w8 ⟨rfl, ⟨nd, rfl⟩⟩))
      have HB8 := Aside0.mk (pw_below_drewN HB7.out nd)
      have q8 : (w7.drewN nd).cell? ⟨B, 0, none⟩ = some (.slice A0_0 l0_0.length c0_0) := q7
      generalize w7.drewN nd = w8 at HB8 q8 ⊢
      clear q7
      go_wp2_with (first | (go_at_call 68; refine (clone_calls A0_0 c0_0 l0_0 _ (Kd.C_below HR1.out HB8.out) HL.out).mono ?_; rintro e w9 ⟨v, rfl, hO, hb⟩; obtain ⟨A2, c2, rfl⟩ := Kd.R_slice hO; have HO := Aside0.mk (Kd.R_lower hO HB8.out.size); have HB9 := Aside0.mk (below_step HB8.out hb); clear hO hb q8))
      go_loopg [7] l0_0.length (fun dq v7 w' => ∃ (xs : List S48) (A : Option Addr) (c : Nat), v7 = .slice A xs.length c ∧ dq = xs.length ∧ xs.length ≤ 64 ∧ Aside0 (joinsW a1 dq xs = r1) ∧ Aside0 (Kd.R k48 48 w' W1.heap.size (fun _ => True) (.slice A xs.length c) xs) ∧ Aside0 (Below W1.heap.size W1 w'))
      case atStart => exact ⟨l0_0, A2, c2, rfl, rfl, HL.out, H3, HO, HB9⟩
      case round =>
        obtain ⟨xs, A, c, rfl, hdq, hx64, HE, HX, HBx⟩ := hrel
        by_cases hgt : a1 < (xs.length : Int)
        · have t1 : decide (a1 < (xs.length : Int)) = true := decide_eq_true hgt
          have hx2 : 2 ≤ xs.length := by have := HN.out; omega
          obtain ⟨g, cap, hv, hg, hrow⟩ : ∃ g cap, (.slice A xs.length c : Value) = .slice (some ⟨g, 0, none⟩) xs.length cap ∧ W1.heap.size ≤ g ∧ Row wr g cap xs := by
            rcases Row.of_R HX.out with ⟨_, h0⟩ | h0
            · rw [h0] at hx2; simp at hx2
            · exact h0
          injection hv with hA _ hc
          subst hA hc
          have HRW := Aside0.mk hrow
          have HG := Aside0.mk hg
          have hcap : xs.length ≤ c := hrow.le
          clear hrow hgt
          go_wp2
          obtain ⟨wo, rfl⟩ : ∃ wo : World, wo = wr := ⟨_, rfl⟩
          obtain ⟨gko, hgko⟩ : ∃ k, k = gk := ⟨_, rfl⟩
          rw [← hgko] at hdq HE
          have HGK := Aside0.mk hgko
          clear hgko
          obtain ⟨n, hn⟩ : ∃ n, xs.length = n := ⟨_, rfl⟩
          rw [hn] at hx2 hx64 hcap ⊢
          have HNN := Aside0.mk hn
          clear hn hg
          go_loopg [8, 30] (n - 1) (fun dq v8 v30 w' => ∃ (a i m : Nat), v8 = .int .i64 a ∧ v30 = .int .i64 i ∧ dq = n - 1 - i ∧ i ≤ n - 1 ∧ a + 1 < n ∧ Aside0 (leastW xs dq i a = leastW xs (n - 1) 0 0) ∧ Aside0 (w' = wo.drewN m))
          case atStart => exact ⟨0, 0, 0, rfl, rfl, rfl, Nat.zero_le _, by omega, ⟨rfl⟩, ⟨rfl⟩⟩
          case round =>
            obtain ⟨a, i, m, rfl, rfl, hdi, hi, ha, HI, HM⟩ := hrel
            obtain rfl := HM.out
            by_cases hlt : (i : Int) < (n : Int) - 1
            · have t2 : decide ((i : Int) < (n : Int) - 1) = true := decide_eq_true hlt
              have c1 := HRW.out.ice i (by rw [HNN.out]; omega)
              have c2' := HRW.out.ice (i + 1) (by rw [HNN.out]; omega)
              have c3 := HRW.out.ice a (by rw [HNN.out]; omega)
              have c4 := HRW.out.ice (a + 1) (by rw [HNN.out]; omega)
              obtain ⟨x1, hx1⟩ : ∃ x, (xs.getD i z48).f0 = x := ⟨_, rfl⟩
              obtain ⟨x2, hx2'⟩ : ∃ x, (xs.getD (i + 1) z48).f0 = x := ⟨_, rfl⟩
              obtain ⟨x3, hx3⟩ : ∃ x, (xs.getD a z48).f0 = x := ⟨_, rfl⟩
              obtain ⟨x4, hx4⟩ : ∃ x, (xs.getD (a + 1) z48).f0 = x := ⟨_, rfl⟩
              rw [hx1] at c1
              rw [hx2'] at c2'
              rw [hx3] at c3
              rw [hx4] at c4
              have HP1 : Aside0 (pairW xs i = wrap64 (x1 + x2)) := ⟨by simp only [pairW, hx1, hx2']⟩
              have HP2 : Aside0 (pairW xs a = wrap64 (x3 + x4)) := ⟨by simp only [pairW, hx3, hx4]⟩
              have i0 : (0 : Int) ≤ (i : Int) := by omega
              have i1 : (i : Int) < (n : Int) := by omega
              have i2 : (0 : Int) ≤ (i : Int) + 1 := by omega
              have i3 : (i : Int) + 1 < (n : Int) := by omega
              have a0 : (0 : Int) ≤ (a : Int) := by omega
              have a1' : (a : Int) < (n : Int) := by omega
              have a2 : (0 : Int) ≤ (a : Int) + 1 := by omega
              have a3 : (a : Int) + 1 < (n : Int) := by omega
              have e1' : IntKind.i64.wrap ((i : Int) + 1) = (i : Int) + 1 := by have := wrap_small ((i : Int) + 1) (by omega) (by omega); simpa [i64_w] using this
              have e2 : IntKind.i64.wrap ((a : Int) + 1) = (a : Int) + 1 := by have := wrap_small ((a : Int) + 1) (by omega) (by omega); simpa [i64_w] using this
              have e3 : ((i : Int) + 1).toNat = i + 1 := by omega
              have e4 : ((a : Int) + 1).toNat = a + 1 := by omega
              clear hx1 hx2' hx3 hx4
              go_upto_region 12 with (fail)
              go_quiet (fail)
              (try simp only [i64_w])
              by_cases hp : wrap64 (x1 + x2) < wrap64 (x3 + x4)
              · have z1 : decide (wrap64 (x1 + x2) < wrap64 (x3 + x4)) = true := decide_eq_true hp
                have HPP : Aside0 (pairW xs i < pairW xs a) := ⟨by rw [HP1.out, HP2.out]; exact hp⟩
                rw [z1]
                clear hp z1 c1 c2' c3 c4 e1' e2 e3 e4
                go_wp2
                go_roundg (n - 1 - (i + 1))
                case measure => omega
                case rel =>
                  refine ⟨i, i + 1, m + nq, rfl, by go_num, rfl, by omega, by omega, ⟨?_⟩, ⟨by first | rfl | exact drewN_two _ _ _⟩⟩
                  have e : n - 1 - i = (n - 1 - (i + 1)) + 1 := by omega
                  rw [← HI.out, hdi, e]
                  simp only [leastW, if_pos HPP.out]
              · have z1 : decide (wrap64 (x1 + x2) < wrap64 (x3 + x4)) = false := decide_eq_false hp
                have HPP : Aside0 (¬ pairW xs i < pairW xs a) := ⟨by rw [HP1.out, HP2.out]; exact hp⟩
                rw [z1]
                clear hp z1 c1 c2' c3 c4 e1' e2 e3 e4
                go_wp2
                go_roundg (n - 1 - (i + 1))
                case measure => omega
                case rel =>
                  refine ⟨a, i + 1, m + nq, rfl, by go_num, rfl, by omega, by omega, ⟨?_⟩, ⟨by first | rfl | exact drewN_two _ _ _⟩⟩
                  have e : n - 1 - i = (n - 1 - (i + 1)) + 1 := by omega
                  rw [← HI.out, hdi, e]
                  simp only [leastW, if_neg (show ¬ pairW xs i < pairW xs a by have := HPP.out; omega)]
            · have t2 : decide ((i : Int) < (n : Int) - 1) = false := decide_eq_false hlt
              have HA : Aside0 (leastW xs (xs.length - 1) 0 0 = a) := ⟨by
                have h5 := HI.out
                have e : gk = 0 := by omega
                rw [e] at h5
                rw [HNN.out, ← h5]
                rfl⟩
              obtain ⟨W5, hW5⟩ : ∃ W5, wo.drewN m = W5 := ⟨_, rfl⟩
              have HRX : Aside0 (Row W5 g c xs) := ⟨by rw [← hW5]; exact HRW.out.drewN m⟩
              have HBX : Aside0 (Below W1.heap.size W1 W5) := ⟨by rw [← hW5]; exact pw_below_drewN HBx.out m⟩
              rw [hW5]
              clear hW5 hlt
              have x0' := HRX.out.ice a (by rw [HNN.out]; omega)
              have x1' := HRX.out.wet a (by rw [HNN.out]; omega)
              have x2' := HRX.out.cold a (by rw [HNN.out]; omega)
              have y0' := HRX.out.ice (a + 1) (by rw [HNN.out]; omega)
              have y1' := HRX.out.wet (a + 1) (by rw [HNN.out]; omega)
              have y2' := HRX.out.cold (a + 1) (by rw [HNN.out]; omega)
              obtain ⟨x, hx⟩ : ∃ x, xs.getD a z48 = x := ⟨_, rfl⟩
              obtain ⟨y, hy⟩ : ∃ x, xs.getD (a + 1) z48 = x := ⟨_, rfl⟩
              rw [hx] at x0' x1' x2'
              rw [hy] at y0' y1' y2'
              have HXX := Aside0.mk hx
              have HYY := Aside0.mk hy
              have a0 : (0 : Int) ≤ (a : Int) := by omega
              have a1' : (a : Int) < (n : Int) := by omega
              have a2 : (0 : Int) ≤ (a : Int) + 1 := by omega
              have a3 : (a : Int) + 1 < (n : Int) := by omega
              have e2 : IntKind.i64.wrap ((a : Int) + 1) = (a : Int) + 1 := by have := wrap_small ((a : Int) + 1) (by omega) (by omega); simpa [i64_w] using this
              have e4 : ((a : Int) + 1).toNat = a + 1 := by omega
              have hf := HRX.out.free
              clear hx hy
              go_upto_region 15 with (fail)
              go_region_with (go_at_call 69; (with_reducible refine (joined_calls x y _).mono ?_); rintro e w6 ⟨rfl, hb⟩; have HB6 : Aside0 (Below W5.heap.size W5 w6) := ⟨Below.trans ((Below.refl _ _).drew) hb⟩; have hf6 := (HRX.out.below HB6.out).free; have x06 := pw_cell_below HB6.out x0'; have x16 := pw_cell_below HB6.out x1'; have x26 := pw_cell_below HB6.out x2'; clear hb)
              all_goals
                have HR7 := (HRX.out.below HB6.out).put a (by rw [HNN.out]; omega) (joinW x y).f0 (joinW x y).f1 (joinW x y).f2
                have HK7 : KeepG g w6 (((w6.setCell ⟨g, a * 3, none⟩ (.int .i64 (joinW x y).f0)).setCell ⟨g, a * 3 + 1, none⟩ (.int .i64 (joinW x y).f1)).setCell ⟨g, a * 3 + 2, none⟩ (.int .i64 (joinW x y).f2)) := ((KeepG.set _ _ _ _).trans (KeepG.set _ _ _ _)).trans (KeepG.set _ _ _ _)
                generalize ((w6.setCell ⟨g, a * 3, none⟩ (.int .i64 (joinW x y).f0)).setCell ⟨g, a * 3 + 1, none⟩ (.int .i64 (joinW x y).f1)).setCell ⟨g, a * 3 + 2, none⟩ (.int .i64 (joinW x y).f2) = W7 at HR7 HK7 ⊢
                obtain ⟨ys, hys⟩ : ∃ ys, xs.set a ⟨(joinW x y).f0, (joinW x y).f1, (joinW x y).f2⟩ = ys := ⟨_, rfl⟩
                rw [hys] at HR7
                have HY : Aside0 (ys.length = n) := ⟨by rw [← hys, List.length_set]; exact HNN.out⟩
                have HJ : Aside0 (joinOnce xs = ys.take (a + 1) ++ ys.drop (a + 2)) := ⟨by
                  simp only [joinOnce, HA.out, HXX.out, HYY.out]
                  rw [← hys]⟩
                have HRY := Aside0.mk HR7
                have HB7' : Aside0 (Below W1.heap.size W1 W7) := ⟨HK7.below (below_step HBX.out HB6.out) HG.out (below_step HBX.out HB6.out).size⟩
                clear HR7 HK7 hys x0' x1' x2' y0' y1' y2' hf hf6 x06 x16 x26 e2 e4
                go_wp2_with (first | (go_at_call 70; refine (delete_calls' g c (a + 1) (a + 2) n _ _ ys _ HY.out (by omega) (by omega) HRY.out (by omega) (by omega)).mono ?_; rintro e w10 ⟨rfl, hR10, hK10⟩; have HR10 := Aside0.mk hR10; have HB10 : Aside0 (Below W1.heap.size W1 w10) := ⟨hK10.below HB7'.out HG.out HB7'.out.size⟩; clear hR10 hK10))
                obtain rfl := HGK.out
                go_roundg (n - 1)
                case measure => have := HNN.out; omega
                case rel =>
                  have hl : (joinOnce xs).length = n - 1 := by rw [HJ.out]; have := HY.out; simp; omega
                  have el : a + 1 + (n - (a + 2)) = n - 1 := by omega
                  refine ⟨joinOnce xs, some ⟨g, 0, none⟩, c, by rw [hl, el], hl.symm, by omega, ⟨?_⟩, ⟨?_⟩, HB10⟩
                  · have h5 := HE.out
                    have e5 : gko = (n - 1) + 1 := by have := HNN.out; omega
                    rw [e5] at h5
                    have h6 : a1 < (xs.length : Int) := of_decide_eq_true t1
                    simp only [joinsW, if_pos h6] at h5
                    exact h5
                  · have h7 := HR10.out
                    rw [← HJ.out] at h7
                    exact h7.to_R HG.out
        · have t1 : decide (a1 < (xs.length : Int)) = false := decide_eq_false hgt
          have HE' : Aside0 (xs = r1) := ⟨by
            have := HE.out
            cases gk with
            | zero => exact this
            | succ k => simpa [joinsW, hgt] using this⟩
          clear hgt
          obtain ⟨k0, k2⟩ := K.out _ HBx.out
          have HK2 := Aside0.mk k2
          have c4 : wr.cell? ⟨B + 1, 0, none⟩ = some (.slice none 0 0) := (blk_cell k2 0).trans rfl
          have f4 := blk_frozen k2 0
          clear k0 k2
          go_wp2
          refine bodyPost_ret (results_ct rfl _ _ (B + 1) 24 #[.slice A xs.length c] (0, 0) _ rfl (blk_put (cs := #[.slice none 0 0]) HK2.out 0 _ rfl) Tryd.underlying24 rfl (by kernel_rfl)) rfl ?_
          have hR := Kd.R_lower (R_set_low (i := 0) HX.out (B := B + 1) (by have := HS3.out; omega) (.slice A xs.length c)) (show w.heap.size ≤ B + 1 by have := HBq.out; omega)
          exact ⟨_, rfl, by rw [← HE'.out]; exact hR, F.out _ _ HBx.out⟩
    · rw [if_neg hn] at h2
      simp only [Option.some.injEq, Prod.mk.injEq] at h2
      obtain ⟨rfl, rfl⟩ := h2
      have hpf : Aside0 (pack_from.f a1 1 64 = some false) := ⟨by
        unfold pack_from.f
        split
        · rename_i h5
          simp only [Option.some.injEq, decide_eq_false_iff_not]
          intro h6
          exact hn ⟨h5, h6⟩
        · rfl⟩
      clear h1 hn
      obtain ⟨k0, k2⟩ := K.out _ HB7.out
      have HK2 := Aside0.mk k2
      have c4 : w7.cell? ⟨B + 1, 0, none⟩ = some (.slice none 0 0) := (blk_cell k2 0).trans rfl
      have f4 := blk_frozen k2 0
      clear k0 k2
      go_wp2_with (first | (go_at_call 67; refine (pack_from.calls a1 1 64 false _ hpf.out).mono ?_; rintro e w8 ⟨rfl, ⟨nd, rfl⟩⟩))
      refine bodyPost_ret (results_ct rfl _ _ (B + 1) 24 #[.slice none 0 0] (0, 0) _ rfl (blk_put (cs := #[.slice none 0 0]) (blk_drewN HK2.out _) 0 _ rfl) Tryd.underlying24 rfl (by kernel_rfl)) rfl ?_
      exact ⟨_, rfl, Kd.R_nil _ _ _ _ _, F.out _ _ (pw_below_drewN HB7.out _)⟩
  · have z0 : (e1 != 0) = true := by simp [h1]
    have h2 := HH.out
    rw [if_neg h1] at h2
    simp only [Option.some.injEq, Prod.mk.injEq] at h2
    obtain ⟨rfl, rfl⟩ := h2
    clear h1
    obtain ⟨k0, k2⟩ := K.out _ HB7.out
    have HK2 := Aside0.mk k2
    have c4 : w7.cell? ⟨B + 1, 0, none⟩ = some (.slice none 0 0) := (blk_cell k2 0).trans rfl
    have f4 := blk_frozen k2 0
    clear k0 k2
    go_wp2
    refine bodyPost_ret (results_ct rfl _ _ (B + 1) 24 #[.slice none 0 0] (0, 0) _ rfl (blk_put (cs := #[.slice none 0 0]) HK2.out 0 _ rfl) Tryd.underlying24 rfl (by kernel_rfl)) rfl ?_
    exact ⟨_, rfl, Kd.R_nil _ _ _ _ _, F.out _ _ HB7.out⟩
end Go.Proofs.YtpldcikmlpegpaaDoor.PB
end
section
namespace Go.Proofs.YtpldcikmlpegpaaDoor.PB
open Go.RowKit Go.Proofs.YtpldcikmlpegpaaDoorW.PrintWords Go.Proofs.YtpldcikmlpegpaaDoorW.PrintLast Go.Proofs.YtpldcikmlpegpaaDoorW.PrintMore
attribute [local go_sem] max2_int min2_int max_two min_two max_three min_three max_four min_four   -- for this text's walks alone
set_option linter.unusedVariables false
set_option linter.unusedSimpArgs false
def snowlinelaw02_sane.j0 : Nat → Int → Int → Int → Int → Int → Int → Int → ByteArray → Bool → List (S48) → List (S48) → List (S48) → Option (Bool)
  | 0, _, _, _, _, _, _, _, _, _, _, _, _ => none
  | k + 1, x2, x4, x7, x10, x12, x13, x15, x19, x112, x176000, x182000, x195000 => if x112 = true then (some false) else (if x2 = 142 then (if x4 = 10 then (if x7 = 13 then (if x10 = 0 then (if x12 = 1 then (if x13 = 42 then (if x15 = 27 then (if x19.toList = ([112, 97, 99, 107, 32, 52, 48, 47, 50, 47, 48, 32, 49, 48, 48, 47, 48, 47, 53] : List UInt8) then ((snowlineref02_Same.f k x176000 (([(⟨19, 0, 0⟩ : S48), (⟨105, 5, 0⟩ : S48)] : List (S48)))).bind fun t203 => (if t203 = true then ((snowlineref02_Same.f k x182000 (([(⟨92, 0, 3⟩ : S48)] : List (S48)))).bind fun t207 => (if t207 = true then ((snowlineref02_Same.f k x195000 (([(⟨142, 0, 3⟩ : S48)] : List (S48)))).bind fun t211 => (some t211)) else (some false))) else (some false))) else (some false)) else (some false)) else (some false)) else (some false)) else (some false)) else (some false)) else (some false)) else (some false))
def snowlinelaw02_sane.f (k : Nat)  : Option (Bool) := (snowlinelaw02_example.f).bind fun t162 => ((pack_Water.f k t162).bind fun bt166 => ((pack_Ready.f k t162).bind fun bt168 => ((pack_Apply.f t162 3 21 0).bind fun bt170 => ((pack_Apply.f t162 5 50 0).bind fun bt176 => ((pack_Weakest.f t162).bind fun bt182 => ((pack_Steepest.f k (([(⟨300, 0, 0⟩ : S48), (⟨20, 0, 0⟩ : S48)] : List (S48)))).bind fun bt188 => ((pack_Joined.f t162 1).bind fun bt190 => ((pack_Print.f k t162).bind fun bt195 => ((pack_Weakest.f ([] : List (S48))).bind fun bt197 => (if bt166.2 = 0 then (if bt168.2 = 0 then (if bt170.2.2 = 0 then (if bt176.2.2 = 0 then (if bt182.2.2 = 0 then (if bt188.2 = 0 then (if bt190.2 = 0 then (if bt195.2 = 0 then (snowlinelaw02_sane.j0 k bt166.1 bt168.1 bt170.2.1 bt176.2.1 bt182.1 bt182.2.1 bt188.1 bt195.1 (bt197.2.2 != 4) bt170.1 bt176.1 bt190.1) else (snowlinelaw02_sane.j0 k bt166.1 bt168.1 bt170.2.1 bt176.2.1 bt182.1 bt182.2.1 bt188.1 bt195.1 true bt170.1 bt176.1 bt190.1)) else (snowlinelaw02_sane.j0 k bt166.1 bt168.1 bt170.2.1 bt176.2.1 bt182.1 bt182.2.1 bt188.1 bt195.1 true bt170.1 bt176.1 bt190.1)) else (snowlinelaw02_sane.j0 k bt166.1 bt168.1 bt170.2.1 bt176.2.1 bt182.1 bt182.2.1 bt188.1 bt195.1 true bt170.1 bt176.1 bt190.1)) else (snowlinelaw02_sane.j0 k bt166.1 bt168.1 bt170.2.1 bt176.2.1 bt182.1 bt182.2.1 bt188.1 bt195.1 true bt170.1 bt176.1 bt190.1)) else (snowlinelaw02_sane.j0 k bt166.1 bt168.1 bt170.2.1 bt176.2.1 bt182.1 bt182.2.1 bt188.1 bt195.1 true bt170.1 bt176.1 bt190.1)) else (snowlinelaw02_sane.j0 k bt166.1 bt168.1 bt170.2.1 bt176.2.1 bt182.1 bt182.2.1 bt188.1 bt195.1 true bt170.1 bt176.1 bt190.1)) else (snowlinelaw02_sane.j0 k bt166.1 bt168.1 bt170.2.1 bt176.2.1 bt182.1 bt182.2.1 bt188.1 bt195.1 true bt170.1 bt176.1 bt190.1)) else (snowlinelaw02_sane.j0 k bt166.1 bt168.1 bt170.2.1 bt176.2.1 bt182.1 bt182.2.1 bt188.1 bt195.1 true bt170.1 bt176.1 bt190.1)))))))))))
theorem snowlinelaw02_sane.mono_l : ∀ k, (∀ y0 y1 y2 y3 y4 y5 y6 y7 y8 y9 y10 y11, LeO (snowlinelaw02_sane.j0 k y0 y1 y2 y3 y4 y5 y6 y7 y8 y9 y10 y11) (snowlinelaw02_sane.j0 (k + 1) y0 y1 y2 y3 y4 y5 y6 y7 y8 y9 y10 y11))
  | 0 => fun _ _ _ _ _ _ _ _ _ _ _ _ r h => by simp [snowlinelaw02_sane.j0] at h
  | k + 1 => by
    have ih0 := snowlinelaw02_sane.mono_l k
    · intro y0 y1 y2 y3 y4 y5 y6 y7 y8 y9 y10 y11
      unfold snowlinelaw02_sane.j0
      repeat' first
      | (with_reducible exact ih0 _ _ _ _ _ _ _ _ _ _ _ _)
      | (with_reducible exact pack_Print.mono _ _)
      | (with_reducible exact pack_Ready.mono _ _)
      | (with_reducible exact pack_Steepest.mono _ _)
      | (with_reducible exact pack_Water.mono _ _)
      | (with_reducible exact snowlineref02_Same.mono _ _ _)
      | (with_reducible exact LeO.refl _)
      | (with_reducible exact LeO.none _)
      | (with_reducible refine LeO.ite ?_ ?_)
      | (with_reducible refine LeO.bind ?_ (fun _ => ?_))
      | exact ih0 _ _ _ _ _ _ _ _ _ _ _ _
      | exact pack_Print.mono _ _
      | exact pack_Ready.mono _ _
      | exact pack_Steepest.mono _ _
      | exact pack_Water.mono _ _
      | exact snowlineref02_Same.mono _ _ _
      | exact LeO.none _
      | refine LeO.ite ?_ ?_
      | refine LeO.bind ?_ (fun _ => ?_)
theorem snowlinelaw02_sane.mono : ∀ k, LeO (snowlinelaw02_sane.f k ) (snowlinelaw02_sane.f (k + 1) ) := by
  intro  k
  have ih0 := snowlinelaw02_sane.mono_l k
  unfold snowlinelaw02_sane.f
  repeat' first
      | (with_reducible exact ih0 _ _ _ _ _ _ _ _ _ _ _ _)
      | (with_reducible exact pack_Print.mono _ _)
      | (with_reducible exact pack_Ready.mono _ _)
      | (with_reducible exact pack_Steepest.mono _ _)
      | (with_reducible exact pack_Water.mono _ _)
      | (with_reducible exact snowlineref02_Same.mono _ _ _)
      | (with_reducible exact LeO.refl _)
      | (with_reducible exact LeO.none _)
      | (with_reducible refine LeO.ite ?_ ?_)
      | (with_reducible refine LeO.bind ?_ (fun _ => ?_))
      | exact ih0 _ _ _ _ _ _ _ _ _ _ _ _
      | exact pack_Print.mono _ _
      | exact pack_Ready.mono _ _
      | exact pack_Steepest.mono _ _
      | exact pack_Water.mono _ _
      | exact snowlineref02_Same.mono _ _ _
      | exact LeO.none _
      | refine LeO.ite ?_ ?_
      | refine LeO.bind ?_ (fun _ => ?_)
set_option maxHeartbeats 8000000 in
set_option maxRecDepth 100000 in
theorem snowlinelaw02_sane.calls (k : Nat)  (r : Bool) (w : World) (hG : Glob w) (h : snowlinelaw02_sane.f k  = some r) :
    Calls Tryd.prog 18 #[] w fun e w' => e = .returned (.bool r) ∧ Below w.heap.size w w' := by
  have hu24 := Tryd.underlying24
  have hu26 := Tryd.underlying26
  have hu48 := Tryd.underlying48
  have HB := Aside0.mk (Below.refl w.heap.size w)
  have HGl := Aside0.mk hG
  clear hG
  have H : ((snowlinelaw02_example.f).bind fun t162 => ((pack_Water.f k t162).bind fun bt166 => ((pack_Ready.f k t162).bind fun bt168 => ((pack_Apply.f t162 3 21 0).bind fun bt170 => ((pack_Apply.f t162 5 50 0).bind fun bt176 => ((pack_Weakest.f t162).bind fun bt182 => ((pack_Steepest.f k (([(⟨300, 0, 0⟩ : S48), (⟨20, 0, 0⟩ : S48)] : List (S48)))).bind fun bt188 => ((pack_Joined.f t162 1).bind fun bt190 => ((pack_Print.f k t162).bind fun bt195 => ((pack_Weakest.f ([] : List (S48))).bind fun bt197 => (if bt166.2 = 0 then (if bt168.2 = 0 then (if bt170.2.2 = 0 then (if bt176.2.2 = 0 then (if bt182.2.2 = 0 then (if bt188.2 = 0 then (if bt190.2 = 0 then (if bt195.2 = 0 then (snowlinelaw02_sane.j0 k bt166.1 bt168.1 bt170.2.1 bt176.2.1 bt182.1 bt182.2.1 bt188.1 bt195.1 (bt197.2.2 != 4) bt170.1 bt176.1 bt190.1) else (snowlinelaw02_sane.j0 k bt166.1 bt168.1 bt170.2.1 bt176.2.1 bt182.1 bt182.2.1 bt188.1 bt195.1 true bt170.1 bt176.1 bt190.1)) else (snowlinelaw02_sane.j0 k bt166.1 bt168.1 bt170.2.1 bt176.2.1 bt182.1 bt182.2.1 bt188.1 bt195.1 true bt170.1 bt176.1 bt190.1)) else (snowlinelaw02_sane.j0 k bt166.1 bt168.1 bt170.2.1 bt176.2.1 bt182.1 bt182.2.1 bt188.1 bt195.1 true bt170.1 bt176.1 bt190.1)) else (snowlinelaw02_sane.j0 k bt166.1 bt168.1 bt170.2.1 bt176.2.1 bt182.1 bt182.2.1 bt188.1 bt195.1 true bt170.1 bt176.1 bt190.1)) else (snowlinelaw02_sane.j0 k bt166.1 bt168.1 bt170.2.1 bt176.2.1 bt182.1 bt182.2.1 bt188.1 bt195.1 true bt170.1 bt176.1 bt190.1)) else (snowlinelaw02_sane.j0 k bt166.1 bt168.1 bt170.2.1 bt176.2.1 bt182.1 bt182.2.1 bt188.1 bt195.1 true bt170.1 bt176.1 bt190.1)) else (snowlinelaw02_sane.j0 k bt166.1 bt168.1 bt170.2.1 bt176.2.1 bt182.1 bt182.2.1 bt188.1 bt195.1 true bt170.1 bt176.1 bt190.1)) else (snowlinelaw02_sane.j0 k bt166.1 bt168.1 bt170.2.1 bt176.2.1 bt182.1 bt182.2.1 bt188.1 bt195.1 true bt170.1 bt176.1 bt190.1)))))))))))) = some r := h
  clear h
  replace H := Option.bind_eq_some_iff.mp H
  obtain ⟨t162, A10, H⟩ := H
  replace H : ((pack_Water.f k t162).bind fun bt166 => ((pack_Ready.f k t162).bind fun bt168 => ((pack_Apply.f t162 3 21 0).bind fun bt170 => ((pack_Apply.f t162 5 50 0).bind fun bt176 => ((pack_Weakest.f t162).bind fun bt182 => ((pack_Steepest.f k (([(⟨300, 0, 0⟩ : S48), (⟨20, 0, 0⟩ : S48)] : List (S48)))).bind fun bt188 => ((pack_Joined.f t162 1).bind fun bt190 => ((pack_Print.f k t162).bind fun bt195 => ((pack_Weakest.f ([] : List (S48))).bind fun bt197 => (if bt166.2 = 0 then (if bt168.2 = 0 then (if bt170.2.2 = 0 then (if bt176.2.2 = 0 then (if bt182.2.2 = 0 then (if bt188.2 = 0 then (if bt190.2 = 0 then (if bt195.2 = 0 then (snowlinelaw02_sane.j0 k bt166.1 bt168.1 bt170.2.1 bt176.2.1 bt182.1 bt182.2.1 bt188.1 bt195.1 (bt197.2.2 != 4) bt170.1 bt176.1 bt190.1) else (snowlinelaw02_sane.j0 k bt166.1 bt168.1 bt170.2.1 bt176.2.1 bt182.1 bt182.2.1 bt188.1 bt195.1 true bt170.1 bt176.1 bt190.1)) else (snowlinelaw02_sane.j0 k bt166.1 bt168.1 bt170.2.1 bt176.2.1 bt182.1 bt182.2.1 bt188.1 bt195.1 true bt170.1 bt176.1 bt190.1)) else (snowlinelaw02_sane.j0 k bt166.1 bt168.1 bt170.2.1 bt176.2.1 bt182.1 bt182.2.1 bt188.1 bt195.1 true bt170.1 bt176.1 bt190.1)) else (snowlinelaw02_sane.j0 k bt166.1 bt168.1 bt170.2.1 bt176.2.1 bt182.1 bt182.2.1 bt188.1 bt195.1 true bt170.1 bt176.1 bt190.1)) else (snowlinelaw02_sane.j0 k bt166.1 bt168.1 bt170.2.1 bt176.2.1 bt182.1 bt182.2.1 bt188.1 bt195.1 true bt170.1 bt176.1 bt190.1)) else (snowlinelaw02_sane.j0 k bt166.1 bt168.1 bt170.2.1 bt176.2.1 bt182.1 bt182.2.1 bt188.1 bt195.1 true bt170.1 bt176.1 bt190.1)) else (snowlinelaw02_sane.j0 k bt166.1 bt168.1 bt170.2.1 bt176.2.1 bt182.1 bt182.2.1 bt188.1 bt195.1 true bt170.1 bt176.1 bt190.1)) else (snowlinelaw02_sane.j0 k bt166.1 bt168.1 bt170.2.1 bt176.2.1 bt182.1 bt182.2.1 bt188.1 bt195.1 true bt170.1 bt176.1 bt190.1))))))))))) = some r := H
  have A1 := Aside0.mk A10
  clear A10
  replace H := Option.bind_eq_some_iff.mp H
  obtain ⟨⟨t166, t167⟩, A20, H⟩ := H
  replace H : ((pack_Ready.f k t162).bind fun bt168 => ((pack_Apply.f t162 3 21 0).bind fun bt170 => ((pack_Apply.f t162 5 50 0).bind fun bt176 => ((pack_Weakest.f t162).bind fun bt182 => ((pack_Steepest.f k (([(⟨300, 0, 0⟩ : S48), (⟨20, 0, 0⟩ : S48)] : List (S48)))).bind fun bt188 => ((pack_Joined.f t162 1).bind fun bt190 => ((pack_Print.f k t162).bind fun bt195 => ((pack_Weakest.f ([] : List (S48))).bind fun bt197 => (if t167 = 0 then (if bt168.2 = 0 then (if bt170.2.2 = 0 then (if bt176.2.2 = 0 then (if bt182.2.2 = 0 then (if bt188.2 = 0 then (if bt190.2 = 0 then (if bt195.2 = 0 then (snowlinelaw02_sane.j0 k t166 bt168.1 bt170.2.1 bt176.2.1 bt182.1 bt182.2.1 bt188.1 bt195.1 (bt197.2.2 != 4) bt170.1 bt176.1 bt190.1) else (snowlinelaw02_sane.j0 k t166 bt168.1 bt170.2.1 bt176.2.1 bt182.1 bt182.2.1 bt188.1 bt195.1 true bt170.1 bt176.1 bt190.1)) else (snowlinelaw02_sane.j0 k t166 bt168.1 bt170.2.1 bt176.2.1 bt182.1 bt182.2.1 bt188.1 bt195.1 true bt170.1 bt176.1 bt190.1)) else (snowlinelaw02_sane.j0 k t166 bt168.1 bt170.2.1 bt176.2.1 bt182.1 bt182.2.1 bt188.1 bt195.1 true bt170.1 bt176.1 bt190.1)) else (snowlinelaw02_sane.j0 k t166 bt168.1 bt170.2.1 bt176.2.1 bt182.1 bt182.2.1 bt188.1 bt195.1 true bt170.1 bt176.1 bt190.1)) else (snowlinelaw02_sane.j0 k t166 bt168.1 bt170.2.1 bt176.2.1 bt182.1 bt182.2.1 bt188.1 bt195.1 true bt170.1 bt176.1 bt190.1)) else (snowlinelaw02_sane.j0 k t166 bt168.1 bt170.2.1 bt176.2.1 bt182.1 bt182.2.1 bt188.1 bt195.1 true bt170.1 bt176.1 bt190.1)) else (snowlinelaw02_sane.j0 k t166 bt168.1 bt170.2.1 bt176.2.1 bt182.1 bt182.2.1 bt188.1 bt195.1 true bt170.1 bt176.1 bt190.1)) else (snowlinelaw02_sane.j0 k t166 bt168.1 bt170.2.1 bt176.2.1 bt182.1 bt182.2.1 bt188.1 bt195.1 true bt170.1 bt176.1 bt190.1)))))))))) = some r := H
  have A2 := Aside0.mk A20
  clear A20
  replace H := Option.bind_eq_some_iff.mp H
  obtain ⟨⟨t168, t169⟩, A30, H⟩ := H
  replace H : ((pack_Apply.f t162 3 21 0).bind fun bt170 => ((pack_Apply.f t162 5 50 0).bind fun bt176 => ((pack_Weakest.f t162).bind fun bt182 => ((pack_Steepest.f k (([(⟨300, 0, 0⟩ : S48), (⟨20, 0, 0⟩ : S48)] : List (S48)))).bind fun bt188 => ((pack_Joined.f t162 1).bind fun bt190 => ((pack_Print.f k t162).bind fun bt195 => ((pack_Weakest.f ([] : List (S48))).bind fun bt197 => (if t167 = 0 then (if t169 = 0 then (if bt170.2.2 = 0 then (if bt176.2.2 = 0 then (if bt182.2.2 = 0 then (if bt188.2 = 0 then (if bt190.2 = 0 then (if bt195.2 = 0 then (snowlinelaw02_sane.j0 k t166 t168 bt170.2.1 bt176.2.1 bt182.1 bt182.2.1 bt188.1 bt195.1 (bt197.2.2 != 4) bt170.1 bt176.1 bt190.1) else (snowlinelaw02_sane.j0 k t166 t168 bt170.2.1 bt176.2.1 bt182.1 bt182.2.1 bt188.1 bt195.1 true bt170.1 bt176.1 bt190.1)) else (snowlinelaw02_sane.j0 k t166 t168 bt170.2.1 bt176.2.1 bt182.1 bt182.2.1 bt188.1 bt195.1 true bt170.1 bt176.1 bt190.1)) else (snowlinelaw02_sane.j0 k t166 t168 bt170.2.1 bt176.2.1 bt182.1 bt182.2.1 bt188.1 bt195.1 true bt170.1 bt176.1 bt190.1)) else (snowlinelaw02_sane.j0 k t166 t168 bt170.2.1 bt176.2.1 bt182.1 bt182.2.1 bt188.1 bt195.1 true bt170.1 bt176.1 bt190.1)) else (snowlinelaw02_sane.j0 k t166 t168 bt170.2.1 bt176.2.1 bt182.1 bt182.2.1 bt188.1 bt195.1 true bt170.1 bt176.1 bt190.1)) else (snowlinelaw02_sane.j0 k t166 t168 bt170.2.1 bt176.2.1 bt182.1 bt182.2.1 bt188.1 bt195.1 true bt170.1 bt176.1 bt190.1)) else (snowlinelaw02_sane.j0 k t166 t168 bt170.2.1 bt176.2.1 bt182.1 bt182.2.1 bt188.1 bt195.1 true bt170.1 bt176.1 bt190.1)) else (snowlinelaw02_sane.j0 k t166 t168 bt170.2.1 bt176.2.1 bt182.1 bt182.2.1 bt188.1 bt195.1 true bt170.1 bt176.1 bt190.1))))))))) = some r := H
  have A3 := Aside0.mk A30
  clear A30
  replace H := Option.bind_eq_some_iff.mp H
  obtain ⟨⟨t170, t173, t174⟩, A40, H⟩ := H
  replace H : ((pack_Apply.f t162 5 50 0).bind fun bt176 => ((pack_Weakest.f t162).bind fun bt182 => ((pack_Steepest.f k (([(⟨300, 0, 0⟩ : S48), (⟨20, 0, 0⟩ : S48)] : List (S48)))).bind fun bt188 => ((pack_Joined.f t162 1).bind fun bt190 => ((pack_Print.f k t162).bind fun bt195 => ((pack_Weakest.f ([] : List (S48))).bind fun bt197 => (if t167 = 0 then (if t169 = 0 then (if t174 = 0 then (if bt176.2.2 = 0 then (if bt182.2.2 = 0 then (if bt188.2 = 0 then (if bt190.2 = 0 then (if bt195.2 = 0 then (snowlinelaw02_sane.j0 k t166 t168 t173 bt176.2.1 bt182.1 bt182.2.1 bt188.1 bt195.1 (bt197.2.2 != 4) t170 bt176.1 bt190.1) else (snowlinelaw02_sane.j0 k t166 t168 t173 bt176.2.1 bt182.1 bt182.2.1 bt188.1 bt195.1 true t170 bt176.1 bt190.1)) else (snowlinelaw02_sane.j0 k t166 t168 t173 bt176.2.1 bt182.1 bt182.2.1 bt188.1 bt195.1 true t170 bt176.1 bt190.1)) else (snowlinelaw02_sane.j0 k t166 t168 t173 bt176.2.1 bt182.1 bt182.2.1 bt188.1 bt195.1 true t170 bt176.1 bt190.1)) else (snowlinelaw02_sane.j0 k t166 t168 t173 bt176.2.1 bt182.1 bt182.2.1 bt188.1 bt195.1 true t170 bt176.1 bt190.1)) else (snowlinelaw02_sane.j0 k t166 t168 t173 bt176.2.1 bt182.1 bt182.2.1 bt188.1 bt195.1 true t170 bt176.1 bt190.1)) else (snowlinelaw02_sane.j0 k t166 t168 t173 bt176.2.1 bt182.1 bt182.2.1 bt188.1 bt195.1 true t170 bt176.1 bt190.1)) else (snowlinelaw02_sane.j0 k t166 t168 t173 bt176.2.1 bt182.1 bt182.2.1 bt188.1 bt195.1 true t170 bt176.1 bt190.1)) else (snowlinelaw02_sane.j0 k t166 t168 t173 bt176.2.1 bt182.1 bt182.2.1 bt188.1 bt195.1 true t170 bt176.1 bt190.1)))))))) = some r := H
  have A4 := Aside0.mk A40
  clear A40
  replace H := Option.bind_eq_some_iff.mp H
  obtain ⟨⟨t176, t179, t180⟩, A50, H⟩ := H
  replace H : ((pack_Weakest.f t162).bind fun bt182 => ((pack_Steepest.f k (([(⟨300, 0, 0⟩ : S48), (⟨20, 0, 0⟩ : S48)] : List (S48)))).bind fun bt188 => ((pack_Joined.f t162 1).bind fun bt190 => ((pack_Print.f k t162).bind fun bt195 => ((pack_Weakest.f ([] : List (S48))).bind fun bt197 => (if t167 = 0 then (if t169 = 0 then (if t174 = 0 then (if t180 = 0 then (if bt182.2.2 = 0 then (if bt188.2 = 0 then (if bt190.2 = 0 then (if bt195.2 = 0 then (snowlinelaw02_sane.j0 k t166 t168 t173 t179 bt182.1 bt182.2.1 bt188.1 bt195.1 (bt197.2.2 != 4) t170 t176 bt190.1) else (snowlinelaw02_sane.j0 k t166 t168 t173 t179 bt182.1 bt182.2.1 bt188.1 bt195.1 true t170 t176 bt190.1)) else (snowlinelaw02_sane.j0 k t166 t168 t173 t179 bt182.1 bt182.2.1 bt188.1 bt195.1 true t170 t176 bt190.1)) else (snowlinelaw02_sane.j0 k t166 t168 t173 t179 bt182.1 bt182.2.1 bt188.1 bt195.1 true t170 t176 bt190.1)) else (snowlinelaw02_sane.j0 k t166 t168 t173 t179 bt182.1 bt182.2.1 bt188.1 bt195.1 true t170 t176 bt190.1)) else (snowlinelaw02_sane.j0 k t166 t168 t173 t179 bt182.1 bt182.2.1 bt188.1 bt195.1 true t170 t176 bt190.1)) else (snowlinelaw02_sane.j0 k t166 t168 t173 t179 bt182.1 bt182.2.1 bt188.1 bt195.1 true t170 t176 bt190.1)) else (snowlinelaw02_sane.j0 k t166 t168 t173 t179 bt182.1 bt182.2.1 bt188.1 bt195.1 true t170 t176 bt190.1)) else (snowlinelaw02_sane.j0 k t166 t168 t173 t179 bt182.1 bt182.2.1 bt188.1 bt195.1 true t170 t176 bt190.1))))))) = some r := H
  have A5 := Aside0.mk A50
  clear A50
  replace H := Option.bind_eq_some_iff.mp H
  obtain ⟨⟨t182, t183, t184⟩, A60, H⟩ := H
  replace H : ((pack_Steepest.f k (([(⟨300, 0, 0⟩ : S48), (⟨20, 0, 0⟩ : S48)] : List (S48)))).bind fun bt188 => ((pack_Joined.f t162 1).bind fun bt190 => ((pack_Print.f k t162).bind fun bt195 => ((pack_Weakest.f ([] : List (S48))).bind fun bt197 => (if t167 = 0 then (if t169 = 0 then (if t174 = 0 then (if t180 = 0 then (if t184 = 0 then (if bt188.2 = 0 then (if bt190.2 = 0 then (if bt195.2 = 0 then (snowlinelaw02_sane.j0 k t166 t168 t173 t179 t182 t183 bt188.1 bt195.1 (bt197.2.2 != 4) t170 t176 bt190.1) else (snowlinelaw02_sane.j0 k t166 t168 t173 t179 t182 t183 bt188.1 bt195.1 true t170 t176 bt190.1)) else (snowlinelaw02_sane.j0 k t166 t168 t173 t179 t182 t183 bt188.1 bt195.1 true t170 t176 bt190.1)) else (snowlinelaw02_sane.j0 k t166 t168 t173 t179 t182 t183 bt188.1 bt195.1 true t170 t176 bt190.1)) else (snowlinelaw02_sane.j0 k t166 t168 t173 t179 t182 t183 bt188.1 bt195.1 true t170 t176 bt190.1)) else (snowlinelaw02_sane.j0 k t166 t168 t173 t179 t182 t183 bt188.1 bt195.1 true t170 t176 bt190.1)) else (snowlinelaw02_sane.j0 k t166 t168 t173 t179 t182 t183 bt188.1 bt195.1 true t170 t176 bt190.1)) else (snowlinelaw02_sane.j0 k t166 t168 t173 t179 t182 t183 bt188.1 bt195.1 true t170 t176 bt190.1)) else (snowlinelaw02_sane.j0 k t166 t168 t173 t179 t182 t183 bt188.1 bt195.1 true t170 t176 bt190.1)))))) = some r := H
  have A6 := Aside0.mk A60
  clear A60
  obtain ⟨y185, hy185⟩ : ∃ y_ : List (S48), y_ = (([(⟨300, 0, 0⟩ : S48), (⟨20, 0, 0⟩ : S48)] : List (S48))) := ⟨_, rfl⟩
  replace H : ((pack_Steepest.f k y185).bind fun bt188 => ((pack_Joined.f t162 1).bind fun bt190 => ((pack_Print.f k t162).bind fun bt195 => ((pack_Weakest.f ([] : List (S48))).bind fun bt197 => (if t167 = 0 then (if t169 = 0 then (if t174 = 0 then (if t180 = 0 then (if t184 = 0 then (if bt188.2 = 0 then (if bt190.2 = 0 then (if bt195.2 = 0 then (snowlinelaw02_sane.j0 k t166 t168 t173 t179 t182 t183 bt188.1 bt195.1 (bt197.2.2 != 4) t170 t176 bt190.1) else (snowlinelaw02_sane.j0 k t166 t168 t173 t179 t182 t183 bt188.1 bt195.1 true t170 t176 bt190.1)) else (snowlinelaw02_sane.j0 k t166 t168 t173 t179 t182 t183 bt188.1 bt195.1 true t170 t176 bt190.1)) else (snowlinelaw02_sane.j0 k t166 t168 t173 t179 t182 t183 bt188.1 bt195.1 true t170 t176 bt190.1)) else (snowlinelaw02_sane.j0 k t166 t168 t173 t179 t182 t183 bt188.1 bt195.1 true t170 t176 bt190.1)) else (snowlinelaw02_sane.j0 k t166 t168 t173 t179 t182 t183 bt188.1 bt195.1 true t170 t176 bt190.1)) else (snowlinelaw02_sane.j0 k t166 t168 t173 t179 t182 t183 bt188.1 bt195.1 true t170 t176 bt190.1)) else (snowlinelaw02_sane.j0 k t166 t168 t173 t179 t182 t183 bt188.1 bt195.1 true t170 t176 bt190.1)) else (snowlinelaw02_sane.j0 k t166 t168 t173 t179 t182 t183 bt188.1 bt195.1 true t170 t176 bt190.1)))))) = some r := by first | (rw [hy185]; with_reducible exact H) | (have H2_ := (Option.bind_some _ _).symm.trans H; rw [hy185]; with_reducible exact H2_) | (have H2_ := (Option.bind_some _ _).symm.trans H; with_reducible exact H2_) | with_reducible exact H | (rw [hy185]; exact H) | exact H
  have Ny185 := Aside0.mk hy185
  clear hy185
  replace H := Option.bind_eq_some_iff.mp H
  obtain ⟨⟨t188, t189⟩, A70, H⟩ := H
  replace H : ((pack_Joined.f t162 1).bind fun bt190 => ((pack_Print.f k t162).bind fun bt195 => ((pack_Weakest.f ([] : List (S48))).bind fun bt197 => (if t167 = 0 then (if t169 = 0 then (if t174 = 0 then (if t180 = 0 then (if t184 = 0 then (if t189 = 0 then (if bt190.2 = 0 then (if bt195.2 = 0 then (snowlinelaw02_sane.j0 k t166 t168 t173 t179 t182 t183 t188 bt195.1 (bt197.2.2 != 4) t170 t176 bt190.1) else (snowlinelaw02_sane.j0 k t166 t168 t173 t179 t182 t183 t188 bt195.1 true t170 t176 bt190.1)) else (snowlinelaw02_sane.j0 k t166 t168 t173 t179 t182 t183 t188 bt195.1 true t170 t176 bt190.1)) else (snowlinelaw02_sane.j0 k t166 t168 t173 t179 t182 t183 t188 bt195.1 true t170 t176 bt190.1)) else (snowlinelaw02_sane.j0 k t166 t168 t173 t179 t182 t183 t188 bt195.1 true t170 t176 bt190.1)) else (snowlinelaw02_sane.j0 k t166 t168 t173 t179 t182 t183 t188 bt195.1 true t170 t176 bt190.1)) else (snowlinelaw02_sane.j0 k t166 t168 t173 t179 t182 t183 t188 bt195.1 true t170 t176 bt190.1)) else (snowlinelaw02_sane.j0 k t166 t168 t173 t179 t182 t183 t188 bt195.1 true t170 t176 bt190.1)) else (snowlinelaw02_sane.j0 k t166 t168 t173 t179 t182 t183 t188 bt195.1 true t170 t176 bt190.1))))) = some r := H
  have A7 := Aside0.mk A70
  clear A70
  replace H := Option.bind_eq_some_iff.mp H
  obtain ⟨⟨t190, t193⟩, A80, H⟩ := H
  replace H : ((pack_Print.f k t162).bind fun bt195 => ((pack_Weakest.f ([] : List (S48))).bind fun bt197 => (if t167 = 0 then (if t169 = 0 then (if t174 = 0 then (if t180 = 0 then (if t184 = 0 then (if t189 = 0 then (if t193 = 0 then (if bt195.2 = 0 then (snowlinelaw02_sane.j0 k t166 t168 t173 t179 t182 t183 t188 bt195.1 (bt197.2.2 != 4) t170 t176 t190) else (snowlinelaw02_sane.j0 k t166 t168 t173 t179 t182 t183 t188 bt195.1 true t170 t176 t190)) else (snowlinelaw02_sane.j0 k t166 t168 t173 t179 t182 t183 t188 bt195.1 true t170 t176 t190)) else (snowlinelaw02_sane.j0 k t166 t168 t173 t179 t182 t183 t188 bt195.1 true t170 t176 t190)) else (snowlinelaw02_sane.j0 k t166 t168 t173 t179 t182 t183 t188 bt195.1 true t170 t176 t190)) else (snowlinelaw02_sane.j0 k t166 t168 t173 t179 t182 t183 t188 bt195.1 true t170 t176 t190)) else (snowlinelaw02_sane.j0 k t166 t168 t173 t179 t182 t183 t188 bt195.1 true t170 t176 t190)) else (snowlinelaw02_sane.j0 k t166 t168 t173 t179 t182 t183 t188 bt195.1 true t170 t176 t190)) else (snowlinelaw02_sane.j0 k t166 t168 t173 t179 t182 t183 t188 bt195.1 true t170 t176 t190)))) = some r := H
  have A8 := Aside0.mk A80
  clear A80
  replace H := Option.bind_eq_some_iff.mp H
  obtain ⟨⟨t195, t196⟩, A90, H⟩ := H
  replace H : ((pack_Weakest.f ([] : List (S48))).bind fun bt197 => (if t167 = 0 then (if t169 = 0 then (if t174 = 0 then (if t180 = 0 then (if t184 = 0 then (if t189 = 0 then (if t193 = 0 then (if t196 = 0 then (snowlinelaw02_sane.j0 k t166 t168 t173 t179 t182 t183 t188 t195 (bt197.2.2 != 4) t170 t176 t190) else (snowlinelaw02_sane.j0 k t166 t168 t173 t179 t182 t183 t188 t195 true t170 t176 t190)) else (snowlinelaw02_sane.j0 k t166 t168 t173 t179 t182 t183 t188 t195 true t170 t176 t190)) else (snowlinelaw02_sane.j0 k t166 t168 t173 t179 t182 t183 t188 t195 true t170 t176 t190)) else (snowlinelaw02_sane.j0 k t166 t168 t173 t179 t182 t183 t188 t195 true t170 t176 t190)) else (snowlinelaw02_sane.j0 k t166 t168 t173 t179 t182 t183 t188 t195 true t170 t176 t190)) else (snowlinelaw02_sane.j0 k t166 t168 t173 t179 t182 t183 t188 t195 true t170 t176 t190)) else (snowlinelaw02_sane.j0 k t166 t168 t173 t179 t182 t183 t188 t195 true t170 t176 t190)) else (snowlinelaw02_sane.j0 k t166 t168 t173 t179 t182 t183 t188 t195 true t170 t176 t190))) = some r := H
  have A9 := Aside0.mk A90
  clear A90
  replace H := Option.bind_eq_some_iff.mp H
  obtain ⟨⟨t197, t198, t199⟩, A100, H⟩ := H
  replace H : (if t167 = 0 then (if t169 = 0 then (if t174 = 0 then (if t180 = 0 then (if t184 = 0 then (if t189 = 0 then (if t193 = 0 then (if t196 = 0 then (snowlinelaw02_sane.j0 k t166 t168 t173 t179 t182 t183 t188 t195 (t199 != 4) t170 t176 t190) else (snowlinelaw02_sane.j0 k t166 t168 t173 t179 t182 t183 t188 t195 true t170 t176 t190)) else (snowlinelaw02_sane.j0 k t166 t168 t173 t179 t182 t183 t188 t195 true t170 t176 t190)) else (snowlinelaw02_sane.j0 k t166 t168 t173 t179 t182 t183 t188 t195 true t170 t176 t190)) else (snowlinelaw02_sane.j0 k t166 t168 t173 t179 t182 t183 t188 t195 true t170 t176 t190)) else (snowlinelaw02_sane.j0 k t166 t168 t173 t179 t182 t183 t188 t195 true t170 t176 t190)) else (snowlinelaw02_sane.j0 k t166 t168 t173 t179 t182 t183 t188 t195 true t170 t176 t190)) else (snowlinelaw02_sane.j0 k t166 t168 t173 t179 t182 t183 t188 t195 true t170 t176 t190)) else (snowlinelaw02_sane.j0 k t166 t168 t173 t179 t182 t183 t188 t195 true t170 t176 t190)) = some r := H
  have A10 := Aside0.mk A100
  clear A100
  have HC11 := Aside0.mk H
  clear H
  go_enter Tryd.func18, Tryd.ntmps18
  go_upto_region 11 with (first | ((with_reducible refine gate_callee (f := 57) rfl ?_); refine goesL_ (some 24) rfl rfl Tryd.func57 (by kernel_rfl) rfl #[] rfl (by (try simp only [List.map_toArray, List.map_cons, List.map_nil]); first | done | rfl | (simp only [List.length_drop, List.length_take]; rfl)) ?_; (with_reducible refine (snowlinelaw02_example.calls  t162 _ A1.out).mono ?_); rintro e w12 ⟨v163, rfl, ho0, hb⟩; refine ⟨_, rfl, ?_⟩; have n0_ := Aside0.mk (Kd.R_lower ho0 (below_size (by repeat (first | (with_reducible first | exact HB.out | apply below_alloc | apply pw_below_drewN | apply below_drew1) | exact HB.out)))); have n1_ := Aside0.mk (below_step (by repeat (first | (with_reducible first | exact HB.out | apply below_alloc | apply pw_below_drewN | apply below_drew1) | exact HB.out)) hb); clear HB; have HO164 := n0_; have HB := n1_; clear n0_ n1_; (try clear hb); (try clear hb2); (try clear hk); (try clear hi); (try clear ho0)) | ((with_reducible refine gate_dst (N := 1) rfl ?_); (try (refine gate_guard (by rfl) ?_; dsimp only)); refine box_event ?hg (N := 1) ?hd (cs := #[.slice none 0 0]) (t := 24) ?hr ?_; (case hd => rfl); (case hg => rfl); (case hr => first | (go_simp; done) | (go_simp; rfl)); intro gb165 hg w13 hbox hb; have n0_ := Aside0.mk (Kd.R_below (by (with_reducible repeat (first | apply Kd.R_alloc | apply Kd.R_drewN | apply Kd.R_drew)); exact HO164.out) hb); have n1_ := Aside0.mk (below_step (by repeat (first | (with_reducible first | exact HB.out | apply below_alloc | apply pw_below_drewN | apply below_drew1) | exact HB.out)) hb); have n2_ := Aside0.mk (hbox); have n3_ := Aside0.mk ((by rw [hg]; exact (below_size (by repeat (first | (with_reducible first | exact HB.out | apply below_alloc | apply pw_below_drewN | apply below_drew1) | exact HB.out))) : w.heap.size ≤ gb165)); have n4_ := Aside0.mk ((by rw [hg]; exact (below_size (by repeat (first | (with_reducible first | exact HB.out | apply below_alloc | apply pw_below_drewN | apply below_drew1) | exact HB.out))) : w.heap.size ≤ gb165)); clear HO164; clear HB; have HO164 := n0_; have HB := n1_; have BK165 := n2_; have GW165 := n3_; have GE165 := n4_; clear n0_ n1_ n2_ n3_ n4_; clear hb hbox hg; obtain ⟨Ao14, co14, eo14⟩ := Kd.R_slice HO164.out; subst eo14; have hcz15_0 : w13.cell? ⟨gb165, 0, none⟩ = some (.slice none 0 0) := (blk_cell BK165.out 0).trans rfl; have hfz15_0 := blk_frozen BK165.out 0) | ((with_reducible refine gate_callee (f := 24) rfl ?_); refine goesL_ (some 27) rfl rfl Tryd.func24 (by kernel_rfl) rfl #[.agg #[.slice Ao14 t162.length co14]] rfl (by (try simp only [List.map_toArray, List.map_cons, List.map_nil]); first | done | rfl | (simp only [List.length_drop, List.length_take]; rfl)) ?_; (with_reducible refine (pack_Water.calls k _ _ t162 t166 t167 _ ?side1 ?side2 A2.out).mono ?_); (case side1 => refine (Kd.R_reads' (e := 48) (base := w.heap.size) (ok := fun k_ => True) (n := t162.length) (c := co14) ?_).2.2; exact (by (with_reducible repeat (first | apply Kd.R_alloc | apply Kd.R_drewN | apply Kd.R_drew)); exact (Kd.R_mono (Kd.R_far (p := ⟨gb165, 0, none⟩) (Kd.R_types HO164.out BK165.out (by decide)) (fun _ hk => hk.2) (.slice Ao14 t162.length co14)) (fun _ h_ => h_.1)))); (case side2 => exact (Kd.R_reads' HO164.out).2.1); rintro e w16 ⟨rfl, hb⟩; refine ⟨_, rfl, ?_⟩; have n0_ := Aside0.mk (Kd.R_below (by (with_reducible repeat (first | apply Kd.R_alloc | apply Kd.R_drewN | apply Kd.R_drew)); exact (Kd.R_mono (Kd.R_far (p := ⟨gb165, 0, none⟩) (Kd.R_types HO164.out BK165.out (by decide)) (fun _ hk => hk.2) (.slice Ao14 t162.length co14)) (fun _ h_ => h_.1))) hb); have n1_ := Aside0.mk (blk_below (g := gb165) (o := .cells #[.slice Ao14 t162.length co14] 24 (0, 0)) (by (with_reducible repeat (first | refine blk_drewN ?_ _ | refine blk_drew ?_ | refine blk_alloc ?_ _)); refine blk_put (cs := #[.slice none 0 0]) ?_ 0 _ rfl; (with_reducible repeat (first | refine blk_drewN ?_ _ | refine blk_drew ?_ | refine blk_alloc ?_ _)); exact BK165.out) hb); have n2_ := Aside0.mk (below_step (by repeat (first | (with_reducible first | exact HB.out | apply below_alloc | apply pw_below_drewN | apply below_drew1 | refine below_set ?_ GE165.out) | exact HB.out)) hb); clear HO164; clear BK165; clear HB; have HO164 := n0_; have BK165 := n1_; have HB := n2_; clear n0_ n1_ n2_; (try clear hb); (try clear hb2); (try clear hk); (try clear hi); have hcz17_0 : w16.cell? ⟨gb165, 0, none⟩ = some (.slice Ao14 t162.length co14) := (blk_cell BK165.out 0).trans rfl; have hfz17_0 := blk_frozen BK165.out 0) | ((with_reducible refine gate_callee (f := 26) rfl ?_); refine goesL_ (some 32) rfl rfl Tryd.func26 (by kernel_rfl) rfl #[.agg #[.slice Ao14 t162.length co14]] rfl (by (try simp only [List.map_toArray, List.map_cons, List.map_nil]); first | done | rfl | (simp only [List.length_drop, List.length_take]; rfl)) ?_; (with_reducible refine (pack_Ready.calls k _ _ t162 t168 t169 _ ?side1 ?side2 A3.out).mono ?_); (case side1 => repeat (first | exact (Kd.R_reads' HO164.out).2.2 | (with_reducible refine Kd.C_alloc ?_ _) | (with_reducible refine Kd.C_drewN ?_ _) | (with_reducible refine Kd.C_drew ?_))); (case side2 => exact (Kd.R_reads' HO164.out).2.1); rintro e w18 ⟨rfl, hb⟩; refine ⟨_, rfl, ?_⟩; have n0_ := Aside0.mk (Kd.R_below (by (with_reducible repeat (first | apply Kd.R_alloc | apply Kd.R_drewN | apply Kd.R_drew)); exact HO164.out) hb); have n1_ := Aside0.mk (blk_below (g := gb165) (o := .cells #[.slice Ao14 t162.length co14] 24 (0, 0)) (by (with_reducible repeat (first | refine blk_drewN ?_ _ | refine blk_drew ?_ | refine blk_alloc ?_ _)); exact BK165.out) hb); have n2_ := Aside0.mk (below_step (by repeat (first | (with_reducible first | exact HB.out | apply below_alloc | apply pw_below_drewN | apply below_drew1 | refine below_set ?_ GE165.out) | exact HB.out)) hb); clear HO164; clear BK165; clear HB; have HO164 := n0_; have BK165 := n1_; have HB := n2_; clear n0_ n1_ n2_; (try clear hb); (try clear hb2); (try clear hk); (try clear hi); have hcz19_0 : w18.cell? ⟨gb165, 0, none⟩ = some (.slice Ao14 t162.length co14) := (blk_cell BK165.out 0).trans rfl; have hfz19_0 := blk_frozen BK165.out 0) | ((with_reducible refine gate_callee (f := 21) rfl ?_); refine goesL_ (some 38) rfl rfl Tryd.func21 (by kernel_rfl) rfl #[.agg #[.slice Ao14 t162.length co14], .agg #[.int .i64 3, .int .i64 21, .int .i64 0]] rfl (by (try simp only [List.map_toArray, List.map_cons, List.map_nil]); first | done | rfl | (simp only [List.length_drop, List.length_take]; rfl)) ?_; (with_reducible refine (pack_Apply.calls _ _ t162 3 21 0 t170 t173 t174 _ ?side1 ?side2 A4.out).mono ?_); (case side1 => repeat (first | exact (Kd.R_reads' HO164.out).2.2 | (with_reducible refine Kd.C_alloc ?_ _) | (with_reducible refine Kd.C_drewN ?_ _) | (with_reducible refine Kd.C_drew ?_))); (case side2 => exact (Kd.R_reads' HO164.out).2.1); rintro e w20 ⟨v171, rfl, ho0, hb⟩; refine ⟨_, rfl, ?_⟩; have n0_ := Aside0.mk (Kd.R_elder' (by (with_reducible repeat (first | apply Kd.R_alloc | apply Kd.R_drewN | apply Kd.R_drew)); exact HO164.out) (Kd.R_base ho0) hb); have n1_ := Aside0.mk (Kd.R_lower (Kd.R_new' ho0 (Kd.R_lt (by (with_reducible repeat (first | apply Kd.R_alloc | apply Kd.R_drewN | apply Kd.R_drew)); exact HO164.out))) (below_size (by repeat (first | (with_reducible first | exact HB.out | apply below_alloc | apply pw_below_drewN | apply below_drew1 | refine below_set ?_ GE165.out) | exact HB.out)))); have n2_ := Aside0.mk (blk_below (g := gb165) (o := .cells #[.slice Ao14 t162.length co14] 24 (0, 0)) (by (with_reducible repeat (first | refine blk_drewN ?_ _ | refine blk_drew ?_ | refine blk_alloc ?_ _)); exact BK165.out) hb); have n3_ := Aside0.mk (below_step (by repeat (first | (with_reducible first | exact HB.out | apply below_alloc | apply pw_below_drewN | apply below_drew1 | refine below_set ?_ GE165.out) | exact HB.out)) hb); clear HO164; clear BK165; clear HB; have HO164 := n0_; have HO172 := n1_; have BK165 := n2_; have HB := n3_; clear n0_ n1_ n2_ n3_; (try clear hb); (try clear hb2); (try clear hk); (try clear hi); (try clear ho0)) | ((with_reducible refine gate_dst (N := 6) rfl ?_); (try (refine gate_guard (by rfl) ?_; dsimp only)); refine box_event ?hg (N := 6) ?hd (cs := #[.slice none 0 0]) (t := 24) ?hr ?_; (case hd => rfl); (case hg => rfl); (case hr => first | (go_simp; done) | (go_simp; rfl)); intro gb175 hg w21 hbox hb; have n0_ := Aside0.mk (Kd.R_below (by (with_reducible repeat (first | apply Kd.R_alloc | apply Kd.R_drewN | apply Kd.R_drew)); exact HO164.out) hb); have n1_ := Aside0.mk (Kd.R_below (by (with_reducible repeat (first | apply Kd.R_alloc | apply Kd.R_drewN | apply Kd.R_drew)); exact HO172.out) hb); have n2_ := Aside0.mk (blk_below (g := gb165) (o := .cells #[.slice Ao14 t162.length co14] 24 (0, 0)) (by (with_reducible repeat (first | refine blk_drewN ?_ _ | refine blk_drew ?_ | refine blk_alloc ?_ _)); exact BK165.out) hb); have n3_ := Aside0.mk (below_step (by repeat (first | (with_reducible first | exact HB.out | apply below_alloc | apply pw_below_drewN | apply below_drew1 | refine below_set ?_ GE165.out) | exact HB.out)) hb); have n4_ := Aside0.mk (hbox); have n5_ := Aside0.mk ((by rw [hg]; exact (below_size (by repeat (first | (with_reducible first | exact HB.out | apply below_alloc | apply pw_below_drewN | apply below_drew1 | refine below_set ?_ GE165.out) | exact HB.out))) : w.heap.size ≤ gb175)); have n6_ := Aside0.mk ((by rw [hg]; exact (below_size (by repeat (first | (with_reducible first | exact HB.out | apply below_alloc | apply pw_below_drewN | apply below_drew1 | refine below_set ?_ GE165.out) | exact HB.out))) : w.heap.size ≤ gb175)); have n7_ := Aside0.mk ((by rw [hg]; exact Nat.ne_of_lt (blk_lt (g := gb165) (o := .cells #[.slice Ao14 t162.length co14] 24 (0, 0)) (by (with_reducible repeat (first | refine blk_drewN ?_ _ | refine blk_drew ?_ | refine blk_alloc ?_ _)); exact BK165.out)) : gb165 ≠ gb175)); have n8_ := Aside0.mk ((by rw [hg]; exact Nat.ne_of_gt (blk_lt (g := gb165) (o := .cells #[.slice Ao14 t162.length co14] 24 (0, 0)) (by (with_reducible repeat (first | refine blk_drewN ?_ _ | refine blk_drew ?_ | refine blk_alloc ?_ _)); exact BK165.out)) : gb175 ≠ gb165)); clear HO164; clear HO172; clear BK165; clear HB; have HO164 := n0_; have HO172 := n1_; have BK165 := n2_; have HB := n3_; have BK175 := n4_; have GW175 := n5_; have GE175 := n6_; have NB165_175 := n7_; have NB175_165 := n8_; clear n0_ n1_ n2_ n3_ n4_ n5_ n6_ n7_ n8_; clear hb hbox hg; obtain ⟨Ao22, co22, eo22⟩ := Kd.R_slice HO172.out; subst eo22; have hnb23 := NB175_165.out; have hnc23 := NB165_175.out; have hcz24_0 : w21.cell? ⟨gb175, 0, none⟩ = some (.slice none 0 0) := (blk_cell BK175.out 0).trans rfl; have hfz24_0 := blk_frozen BK175.out 0; have hcz25_0 : w21.cell? ⟨gb165, 0, none⟩ = some (.slice Ao14 t162.length co14) := (blk_cell BK165.out 0).trans rfl; have hfz25_0 := blk_frozen BK165.out 0) | ((with_reducible refine gate_callee (f := 21) rfl ?_); refine goesL_ (some 45) rfl rfl Tryd.func21 (by kernel_rfl) rfl #[.agg #[.slice Ao14 t162.length co14], .agg #[.int .i64 5, .int .i64 50, .int .i64 0]] rfl (by (try simp only [List.map_toArray, List.map_cons, List.map_nil]); first | done | rfl | (simp only [List.length_drop, List.length_take]; rfl)) ?_; (with_reducible refine (pack_Apply.calls _ _ t162 5 50 0 t176 t179 t180 _ ?side1 ?side2 A5.out).mono ?_); (case side1 => refine (Kd.R_reads' (e := 48) (base := w.heap.size) (ok := fun k_ => (True ∧ some k_ ≠ (.slice Ao22 t170.length co22 : Value).ownBlock)) (n := t162.length) (c := co14) ?_).2.2; exact (by (with_reducible repeat (first | apply Kd.R_alloc | apply Kd.R_drewN | apply Kd.R_drew)); exact (Kd.R_mono (Kd.R_far (p := ⟨gb175, 0, none⟩) (Kd.R_types HO164.out BK175.out (by decide)) (fun _ hk => hk.2) (.slice Ao22 t170.length co22)) (fun _ h_ => h_.1)))); (case side2 => exact (Kd.R_reads' HO164.out).2.1); rintro e w26 ⟨v177, rfl, ho0, hb⟩; refine ⟨_, rfl, ?_⟩; have n0_ := Aside0.mk (Kd.R_elder' (by (with_reducible repeat (first | apply Kd.R_alloc | apply Kd.R_drewN | apply Kd.R_drew)); exact (Kd.R_mono (Kd.R_far (p := ⟨gb175, 0, none⟩) (Kd.R_types HO164.out BK175.out (by decide)) (fun _ hk => hk.2) (.slice Ao22 t170.length co22)) (fun _ h_ => h_.1))) (Kd.R_base ho0) hb); have n1_ := Aside0.mk (Kd.R_elder' (by (with_reducible repeat (first | apply Kd.R_alloc | apply Kd.R_drewN | apply Kd.R_drew)); exact (Kd.R_mono (Kd.R_far (p := ⟨gb175, 0, none⟩) (Kd.R_types HO172.out BK175.out (by decide)) (fun _ hk => hk.2) (.slice Ao22 t170.length co22)) (fun _ h_ => h_.1))) (Kd.R_base ho0) hb); have n2_ := Aside0.mk (Kd.R_lower (Kd.R_new' (Kd.R_new' ho0 (Kd.R_lt (by (with_reducible repeat (first | apply Kd.R_alloc | apply Kd.R_drewN | apply Kd.R_drew)); exact (Kd.R_mono (Kd.R_far (p := ⟨gb175, 0, none⟩) (Kd.R_types HO164.out BK175.out (by decide)) (fun _ hk => hk.2) (.slice Ao22 t170.length co22)) (fun _ h_ => h_.1))))) (Kd.R_lt (by (with_reducible repeat (first | apply Kd.R_alloc | apply Kd.R_drewN | apply Kd.R_drew)); exact (Kd.R_mono (Kd.R_far (p := ⟨gb175, 0, none⟩) (Kd.R_types HO172.out BK175.out (by decide)) (fun _ hk => hk.2) (.slice Ao22 t170.length co22)) (fun _ h_ => h_.1))))) (below_size (by repeat (first | (with_reducible first | exact HB.out | apply below_alloc | apply pw_below_drewN | apply below_drew1 | refine below_set ?_ GE165.out | refine below_set ?_ GE175.out) | exact HB.out)))); have n3_ := Aside0.mk (blk_below (g := gb165) (o := .cells #[.slice Ao14 t162.length co14] 24 (0, 0)) (by (with_reducible repeat (first | refine blk_drewN ?_ _ | refine blk_drew ?_ | refine blk_alloc ?_ _)); refine blk_far ?_ NB165_175.out _; (with_reducible repeat (first | refine blk_drewN ?_ _ | refine blk_drew ?_ | refine blk_alloc ?_ _)); exact BK165.out) hb); have n4_ := Aside0.mk (blk_below (g := gb175) (o := .cells #[.slice Ao22 t170.length co22] 24 (0, 0)) (by (with_reducible repeat (first | refine blk_drewN ?_ _ | refine blk_drew ?_ | refine blk_alloc ?_ _)); refine blk_put (cs := #[.slice none 0 0]) ?_ 0 _ rfl; (with_reducible repeat (first | refine blk_drewN ?_ _ | refine blk_drew ?_ | refine blk_alloc ?_ _)); exact BK175.out) hb); have n5_ := Aside0.mk (below_step (by repeat (first | (with_reducible first | exact HB.out | apply below_alloc | apply pw_below_drewN | apply below_drew1 | refine below_set ?_ GE165.out | refine below_set ?_ GE175.out) | exact HB.out)) hb); clear HO164; clear HO172; clear BK165; clear BK175; clear HB; have HO164 := n0_; have HO172 := n1_; have HO178 := n2_; have BK165 := n3_; have BK175 := n4_; have HB := n5_; clear n0_ n1_ n2_ n3_ n4_ n5_; (try clear hb); (try clear hb2); (try clear hk); (try clear hi); (try clear ho0)) | ((with_reducible refine gate_dst (N := 9) rfl ?_); (try (refine gate_guard (by rfl) ?_; dsimp only)); refine box_event ?hg (N := 9) ?hd (cs := #[.slice none 0 0]) (t := 24) ?hr ?_; (case hd => rfl); (case hg => rfl); (case hr => first | (go_simp; done) | (go_simp; rfl)); intro gb181 hg w27 hbox hb; have n0_ := Aside0.mk (Kd.R_below (by (with_reducible repeat (first | apply Kd.R_alloc | apply Kd.R_drewN | apply Kd.R_drew)); exact HO164.out) hb); have n1_ := Aside0.mk (Kd.R_below (by (with_reducible repeat (first | apply Kd.R_alloc | apply Kd.R_drewN | apply Kd.R_drew)); exact HO172.out) hb); have n2_ := Aside0.mk (Kd.R_below (by (with_reducible repeat (first | apply Kd.R_alloc | apply Kd.R_drewN | apply Kd.R_drew)); exact HO178.out) hb); have n3_ := Aside0.mk (blk_below (g := gb165) (o := .cells #[.slice Ao14 t162.length co14] 24 (0, 0)) (by (with_reducible repeat (first | refine blk_drewN ?_ _ | refine blk_drew ?_ | refine blk_alloc ?_ _)); exact BK165.out) hb); have n4_ := Aside0.mk (blk_below (g := gb175) (o := .cells #[.slice Ao22 t170.length co22] 24 (0, 0)) (by (with_reducible repeat (first | refine blk_drewN ?_ _ | refine blk_drew ?_ | refine blk_alloc ?_ _)); exact BK175.out) hb); have n5_ := Aside0.mk (below_step (by repeat (first | (with_reducible first | exact HB.out | apply below_alloc | apply pw_below_drewN | apply below_drew1 | refine below_set ?_ GE165.out | refine below_set ?_ GE175.out) | exact HB.out)) hb); have n6_ := Aside0.mk (hbox); have n7_ := Aside0.mk ((by rw [hg]; exact (below_size (by repeat (first | (with_reducible first | exact HB.out | apply below_alloc | apply pw_below_drewN | apply below_drew1 | refine below_set ?_ GE165.out | refine below_set ?_ GE175.out) | exact HB.out))) : w.heap.size ≤ gb181)); have n8_ := Aside0.mk ((by rw [hg]; exact (below_size (by repeat (first | (with_reducible first | exact HB.out | apply below_alloc | apply pw_below_drewN | apply below_drew1 | refine below_set ?_ GE165.out | refine below_set ?_ GE175.out) | exact HB.out))) : w.heap.size ≤ gb181)); have n9_ := Aside0.mk ((by rw [hg]; exact Nat.ne_of_lt (blk_lt (g := gb165) (o := .cells #[.slice Ao14 t162.length co14] 24 (0, 0)) (by (with_reducible repeat (first | refine blk_drewN ?_ _ | refine blk_drew ?_ | refine blk_alloc ?_ _)); exact BK165.out)) : gb165 ≠ gb181)); have n10_ := Aside0.mk ((by rw [hg]; exact Nat.ne_of_gt (blk_lt (g := gb165) (o := .cells #[.slice Ao14 t162.length co14] 24 (0, 0)) (by (with_reducible repeat (first | refine blk_drewN ?_ _ | refine blk_drew ?_ | refine blk_alloc ?_ _)); exact BK165.out)) : gb181 ≠ gb165)); have n11_ := Aside0.mk ((by rw [hg]; exact Nat.ne_of_lt (blk_lt (g := gb175) (o := .cells #[.slice Ao22 t170.length co22] 24 (0, 0)) (by (with_reducible repeat (first | refine blk_drewN ?_ _ | refine blk_drew ?_ | refine blk_alloc ?_ _)); exact BK175.out)) : gb175 ≠ gb181)); have n12_ := Aside0.mk ((by rw [hg]; exact Nat.ne_of_gt (blk_lt (g := gb175) (o := .cells #[.slice Ao22 t170.length co22] 24 (0, 0)) (by (with_reducible repeat (first | refine blk_drewN ?_ _ | refine blk_drew ?_ | refine blk_alloc ?_ _)); exact BK175.out)) : gb181 ≠ gb175)); clear HO164; clear HO172; clear HO178; clear BK165; clear BK175; clear HB; have HO164 := n0_; have HO172 := n1_; have HO178 := n2_; have BK165 := n3_; have BK175 := n4_; have HB := n5_; have BK181 := n6_; have GW181 := n7_; have GE181 := n8_; have NB165_181 := n9_; have NB181_165 := n10_; have NB175_181 := n11_; have NB181_175 := n12_; clear n0_ n1_ n2_ n3_ n4_ n5_ n6_ n7_ n8_ n9_ n10_ n11_ n12_; clear hb hbox hg; obtain ⟨Ao28, co28, eo28⟩ := Kd.R_slice HO178.out; subst eo28; have hnb29 := NB181_165.out; have hnc29 := NB165_181.out; have hnb30 := NB181_175.out; have hnc30 := NB175_181.out; have hcz31_0 : w27.cell? ⟨gb181, 0, none⟩ = some (.slice none 0 0) := (blk_cell BK181.out 0).trans rfl; have hfz31_0 := blk_frozen BK181.out 0; have hcz32_0 : w27.cell? ⟨gb165, 0, none⟩ = some (.slice Ao14 t162.length co14) := (blk_cell BK165.out 0).trans rfl; have hfz32_0 := blk_frozen BK165.out 0) | ((with_reducible refine gate_callee (f := 33) rfl ?_); refine goesL_ (some 51) rfl rfl Tryd.func33 (by kernel_rfl) rfl #[.agg #[.slice Ao14 t162.length co14]] rfl (by (try simp only [List.map_toArray, List.map_cons, List.map_nil]); first | done | rfl | (simp only [List.length_drop, List.length_take]; rfl)) ?_; (with_reducible refine (pack_Weakest.calls _ _ t162 t182 t183 t184 _ ?side1 ?side2 A6.out).mono ?_); (case side1 => refine (Kd.R_reads' (e := 48) (base := w.heap.size) (ok := fun k_ => ((True ∧ some k_ ≠ (.slice Ao22 t170.length co22 : Value).ownBlock) ∧ some k_ ≠ (.slice Ao28 t176.length co28 : Value).ownBlock)) (n := t162.length) (c := co14) ?_).2.2; exact (by (with_reducible repeat (first | apply Kd.R_alloc | apply Kd.R_drewN | apply Kd.R_drew)); exact (Kd.R_mono (Kd.R_far (p := ⟨gb181, 0, none⟩) (Kd.R_types HO164.out BK181.out (by decide)) (fun _ hk => hk.2) (.slice Ao28 t176.length co28)) (fun _ h_ => h_.1)))); (case side2 => exact (Kd.R_reads' HO164.out).2.1); rintro e w33 ⟨rfl, hb⟩; refine ⟨_, rfl, ?_⟩; have n0_ := Aside0.mk (Kd.R_below (by (with_reducible repeat (first | apply Kd.R_alloc | apply Kd.R_drewN | apply Kd.R_drew)); exact (Kd.R_mono (Kd.R_far (p := ⟨gb181, 0, none⟩) (Kd.R_types HO164.out BK181.out (by decide)) (fun _ hk => hk.2) (.slice Ao28 t176.length co28)) (fun _ h_ => h_.1))) hb); have n1_ := Aside0.mk (Kd.R_below (by (with_reducible repeat (first | apply Kd.R_alloc | apply Kd.R_drewN | apply Kd.R_drew)); exact (Kd.R_mono (Kd.R_far (p := ⟨gb181, 0, none⟩) (Kd.R_types HO172.out BK181.out (by decide)) (fun _ hk => hk.2) (.slice Ao28 t176.length co28)) (fun _ h_ => h_.1))) hb); have n2_ := Aside0.mk (Kd.R_below (by (with_reducible repeat (first | apply Kd.R_alloc | apply Kd.R_drewN | apply Kd.R_drew)); exact (Kd.R_mono (Kd.R_far (p := ⟨gb181, 0, none⟩) (Kd.R_types HO178.out BK181.out (by decide)) (fun _ hk => hk.2) (.slice Ao28 t176.length co28)) (fun _ h_ => h_.1))) hb); have n3_ := Aside0.mk (blk_below (g := gb165) (o := .cells #[.slice Ao14 t162.length co14] 24 (0, 0)) (by (with_reducible repeat (first | refine blk_drewN ?_ _ | refine blk_drew ?_ | refine blk_alloc ?_ _)); refine blk_far ?_ NB165_181.out _; (with_reducible repeat (first | refine blk_drewN ?_ _ | refine blk_drew ?_ | refine blk_alloc ?_ _)); exact BK165.out) hb); have n4_ := Aside0.mk (blk_below (g := gb175) (o := .cells #[.slice Ao22 t170.length co22] 24 (0, 0)) (by (with_reducible repeat (first | refine blk_drewN ?_ _ | refine blk_drew ?_ | refine blk_alloc ?_ _)); refine blk_far ?_ NB175_181.out _; (with_reducible repeat (first | refine blk_drewN ?_ _ | refine blk_drew ?_ | refine blk_alloc ?_ _)); exact BK175.out) hb); have n5_ := Aside0.mk (blk_below (g := gb181) (o := .cells #[.slice Ao28 t176.length co28] 24 (0, 0)) (by (with_reducible repeat (first | refine blk_drewN ?_ _ | refine blk_drew ?_ | refine blk_alloc ?_ _)); refine blk_put (cs := #[.slice none 0 0]) ?_ 0 _ rfl; (with_reducible repeat (first | refine blk_drewN ?_ _ | refine blk_drew ?_ | refine blk_alloc ?_ _)); exact BK181.out) hb); have n6_ := Aside0.mk (below_step (by repeat (first | (with_reducible first | exact HB.out | apply below_alloc | apply pw_below_drewN | apply below_drew1 | refine below_set ?_ GE165.out | refine below_set ?_ GE175.out | refine below_set ?_ GE181.out) | exact HB.out)) hb); clear HO164; clear HO172; clear HO178; clear BK165; clear BK175; clear BK181; clear HB; have HO164 := n0_; have HO172 := n1_; have HO178 := n2_; have BK165 := n3_; have BK175 := n4_; have BK181 := n5_; have HB := n6_; clear n0_ n1_ n2_ n3_ n4_ n5_ n6_; (try clear hb); (try clear hb2); (try clear hk); (try clear hi)) | ((with_reducible refine gate_dst (N := 58) rfl ?_); (try (refine gate_guard (by rfl) ?_; dsimp only)); refine Kd.R_lit k48 _ 48 ?hg (N := 58) ?hd (xs := ([(⟨300, 0, 0⟩ : S48), (⟨20, 0, 0⟩ : S48)] : List (S48))) (inner := [.int .i64 300, .int .i64 0, .int .i64 0, .int .i64 20, .int .i64 0, .int .i64 0]) (ok := fun _ => True) (okp := fun _ => True) ?hr ?hp (fun _ hk => hk) trivial (Below.refl _ _) (Nat.le_refl _) (by simp) ?_; (case hd => rfl); (case hg => rfl); (case hr => first | (go_simp; done) | (go_simp; rfl)); (case hp => exact (Reps.c3 (show Kd.M k48 _ _ _ (⟨300, 0, 0⟩ : S48) [.int .i64 300, .int .i64 0, .int .i64 0] from (k48_mkM _ _ _ (⟨300, 0, 0⟩ : S48) )) (Reps.c3 (show Kd.M k48 _ _ _ (⟨20, 0, 0⟩ : S48) [.int .i64 20, .int .i64 0, .int .i64 0] from (k48_mkM _ _ _ (⟨20, 0, 0⟩ : S48) )) (Reps.none _ _)))); intro v186 w34 ho35 hb hg_ hnew_; clear hg_ hnew_; (first | rw [← Ny185.out] at ho35 | (simp only [Int.reduceToNat] at ho35; rw [← Ny185.out] at ho35)); have n0_ := Aside0.mk (Kd.R_elder' (by (with_reducible repeat (first | apply Kd.R_alloc | apply Kd.R_drewN | apply Kd.R_drew)); exact HO164.out) (Kd.R_base ho35) hb); have n1_ := Aside0.mk (Kd.R_elder' (by (with_reducible repeat (first | apply Kd.R_alloc | apply Kd.R_drewN | apply Kd.R_drew)); exact HO172.out) (Kd.R_base ho35) hb); have n2_ := Aside0.mk (Kd.R_elder' (by (with_reducible repeat (first | apply Kd.R_alloc | apply Kd.R_drewN | apply Kd.R_drew)); exact HO178.out) (Kd.R_base ho35) hb); have n3_ := Aside0.mk (Kd.R_lower (Kd.R_new' (Kd.R_new' (Kd.R_new' ho35 (Kd.R_lt (by (with_reducible repeat (first | apply Kd.R_alloc | apply Kd.R_drewN | apply Kd.R_drew)); exact HO164.out))) (Kd.R_lt (by (with_reducible repeat (first | apply Kd.R_alloc | apply Kd.R_drewN | apply Kd.R_drew)); exact HO172.out))) (Kd.R_lt (by (with_reducible repeat (first | apply Kd.R_alloc | apply Kd.R_drewN | apply Kd.R_drew)); exact HO178.out))) (below_size (by repeat (first | (with_reducible first | exact HB.out | apply below_alloc | apply pw_below_drewN | apply below_drew1 | refine below_set ?_ GE165.out | refine below_set ?_ GE175.out | refine below_set ?_ GE181.out) | exact HB.out)))); have n4_ := Aside0.mk (blk_below (g := gb165) (o := .cells #[.slice Ao14 t162.length co14] 24 (0, 0)) (by (with_reducible repeat (first | refine blk_drewN ?_ _ | refine blk_drew ?_ | refine blk_alloc ?_ _)); exact BK165.out) hb); have n5_ := Aside0.mk (blk_below (g := gb175) (o := .cells #[.slice Ao22 t170.length co22] 24 (0, 0)) (by (with_reducible repeat (first | refine blk_drewN ?_ _ | refine blk_drew ?_ | refine blk_alloc ?_ _)); exact BK175.out) hb); have n6_ := Aside0.mk (blk_below (g := gb181) (o := .cells #[.slice Ao28 t176.length co28] 24 (0, 0)) (by (with_reducible repeat (first | refine blk_drewN ?_ _ | refine blk_drew ?_ | refine blk_alloc ?_ _)); exact BK181.out) hb); have n7_ := Aside0.mk (below_step (by repeat (first | (with_reducible first | exact HB.out | apply below_alloc | apply pw_below_drewN | apply below_drew1 | refine below_set ?_ GE165.out | refine below_set ?_ GE175.out | refine below_set ?_ GE181.out) | exact HB.out)) hb); clear HO164; clear HO172; clear HO178; clear BK165; clear BK175; clear BK181; clear HB; have HO164 := n0_; have HO172 := n1_; have HO178 := n2_; have HO187 := n3_; have BK165 := n4_; have BK175 := n5_; have BK181 := n6_; have HB := n7_; clear n0_ n1_ n2_ n3_ n4_ n5_ n6_ n7_; clear hb ho35; obtain ⟨Ao36, co36, eo36⟩ := Kd.R_slice HO187.out; subst eo36) | ((with_reducible refine gate_callee (f := 37) rfl ?_); refine goesL_ (some 60) rfl rfl Tryd.func37 (by kernel_rfl) rfl #[.agg #[.slice Ao36 y185.length co36]] rfl (by (try simp only [List.map_toArray, List.map_cons, List.map_nil]); first | done | rfl | (simp only [List.length_drop, List.length_take]; rfl)) ?_; (with_reducible refine (pack_Steepest.calls k _ _ y185 t188 t189 _ ?side1 ?side2 A7.out).mono ?_); (case side1 => repeat (first | exact (Kd.R_reads' HO187.out).2.2 | (with_reducible refine Kd.C_alloc ?_ _) | (with_reducible refine Kd.C_drewN ?_ _) | (with_reducible refine Kd.C_drew ?_))); (case side2 => exact (Kd.R_reads' HO187.out).2.1); rintro e w37 ⟨rfl, hb⟩; refine ⟨_, rfl, ?_⟩; have n0_ := Aside0.mk (Kd.R_below (by (with_reducible repeat (first | apply Kd.R_alloc | apply Kd.R_drewN | apply Kd.R_drew)); exact HO164.out) hb); have n1_ := Aside0.mk (Kd.R_below (by (with_reducible repeat (first | apply Kd.R_alloc | apply Kd.R_drewN | apply Kd.R_drew)); exact HO172.out) hb); have n2_ := Aside0.mk (Kd.R_below (by (with_reducible repeat (first | apply Kd.R_alloc | apply Kd.R_drewN | apply Kd.R_drew)); exact HO178.out) hb); have n3_ := Aside0.mk (Kd.R_below (by (with_reducible repeat (first | apply Kd.R_alloc | apply Kd.R_drewN | apply Kd.R_drew)); exact HO187.out) hb); have n4_ := Aside0.mk (blk_below (g := gb165) (o := .cells #[.slice Ao14 t162.length co14] 24 (0, 0)) (by (with_reducible repeat (first | refine blk_drewN ?_ _ | refine blk_drew ?_ | refine blk_alloc ?_ _)); exact BK165.out) hb); have n5_ := Aside0.mk (blk_below (g := gb175) (o := .cells #[.slice Ao22 t170.length co22] 24 (0, 0)) (by (with_reducible repeat (first | refine blk_drewN ?_ _ | refine blk_drew ?_ | refine blk_alloc ?_ _)); exact BK175.out) hb); have n6_ := Aside0.mk (blk_below (g := gb181) (o := .cells #[.slice Ao28 t176.length co28] 24 (0, 0)) (by (with_reducible repeat (first | refine blk_drewN ?_ _ | refine blk_drew ?_ | refine blk_alloc ?_ _)); exact BK181.out) hb); have n7_ := Aside0.mk (below_step (by repeat (first | (with_reducible first | exact HB.out | apply below_alloc | apply pw_below_drewN | apply below_drew1 | refine below_set ?_ GE165.out | refine below_set ?_ GE175.out | refine below_set ?_ GE181.out) | exact HB.out)) hb); clear HO164; clear HO172; clear HO178; clear HO187; clear BK165; clear BK175; clear BK181; clear HB; have HO164 := n0_; have HO172 := n1_; have HO178 := n2_; have HO187 := n3_; have BK165 := n4_; have BK175 := n5_; have BK181 := n6_; have HB := n7_; clear n0_ n1_ n2_ n3_ n4_ n5_ n6_ n7_; (try clear hb); (try clear hb2); (try clear hk); (try clear hi); have hcz38_0 : w37.cell? ⟨gb165, 0, none⟩ = some (.slice Ao14 t162.length co14) := (blk_cell BK165.out 0).trans rfl; have hfz38_0 := blk_frozen BK165.out 0) | ((with_reducible refine gate_callee (f := 29) rfl ?_); refine goesL_ (some 65) rfl rfl Tryd.func29 (by kernel_rfl) rfl #[.agg #[.slice Ao14 t162.length co14], .int .i64 1] rfl (by (try simp only [List.map_toArray, List.map_cons, List.map_nil]); first | done | rfl | (simp only [List.length_drop, List.length_take]; rfl)) ?_; (with_reducible refine (pack_Joined.calls _ _ t162 1 t190 t193 _ ?side1 ?side2 A8.out).mono ?_); (case side1 => repeat (first | exact (Kd.R_reads' HO164.out).2.2 | (with_reducible refine Kd.C_alloc ?_ _) | (with_reducible refine Kd.C_drewN ?_ _) | (with_reducible refine Kd.C_drew ?_))); (case side2 => exact (Kd.R_reads' HO164.out).2.1); rintro e w39 ⟨v191, rfl, ho0, hb⟩; refine ⟨_, rfl, ?_⟩; have n0_ := Aside0.mk (Kd.R_elder' (by (with_reducible repeat (first | apply Kd.R_alloc | apply Kd.R_drewN | apply Kd.R_drew)); exact HO164.out) (Kd.R_base ho0) hb); have n1_ := Aside0.mk (Kd.R_elder' (by (with_reducible repeat (first | apply Kd.R_alloc | apply Kd.R_drewN | apply Kd.R_drew)); exact HO172.out) (Kd.R_base ho0) hb); have n2_ := Aside0.mk (Kd.R_elder' (by (with_reducible repeat (first | apply Kd.R_alloc | apply Kd.R_drewN | apply Kd.R_drew)); exact HO178.out) (Kd.R_base ho0) hb); have n3_ := Aside0.mk (Kd.R_elder' (by (with_reducible repeat (first | apply Kd.R_alloc | apply Kd.R_drewN | apply Kd.R_drew)); exact HO187.out) (Kd.R_base ho0) hb); have n4_ := Aside0.mk (Kd.R_lower (Kd.R_new' (Kd.R_new' (Kd.R_new' (Kd.R_new' ho0 (Kd.R_lt (by (with_reducible repeat (first | apply Kd.R_alloc | apply Kd.R_drewN | apply Kd.R_drew)); exact HO164.out))) (Kd.R_lt (by (with_reducible repeat (first | apply Kd.R_alloc | apply Kd.R_drewN | apply Kd.R_drew)); exact HO172.out))) (Kd.R_lt (by (with_reducible repeat (first | apply Kd.R_alloc | apply Kd.R_drewN | apply Kd.R_drew)); exact HO178.out))) (Kd.R_lt (by (with_reducible repeat (first | apply Kd.R_alloc | apply Kd.R_drewN | apply Kd.R_drew)); exact HO187.out))) (below_size (by repeat (first | (with_reducible first | exact HB.out | apply below_alloc | apply pw_below_drewN | apply below_drew1 | refine below_set ?_ GE165.out | refine below_set ?_ GE175.out | refine below_set ?_ GE181.out) | exact HB.out)))); have n5_ := Aside0.mk (blk_below (g := gb165) (o := .cells #[.slice Ao14 t162.length co14] 24 (0, 0)) (by (with_reducible repeat (first | refine blk_drewN ?_ _ | refine blk_drew ?_ | refine blk_alloc ?_ _)); exact BK165.out) hb); have n6_ := Aside0.mk (blk_below (g := gb175) (o := .cells #[.slice Ao22 t170.length co22] 24 (0, 0)) (by (with_reducible repeat (first | refine blk_drewN ?_ _ | refine blk_drew ?_ | refine blk_alloc ?_ _)); exact BK175.out) hb); have n7_ := Aside0.mk (blk_below (g := gb181) (o := .cells #[.slice Ao28 t176.length co28] 24 (0, 0)) (by (with_reducible repeat (first | refine blk_drewN ?_ _ | refine blk_drew ?_ | refine blk_alloc ?_ _)); exact BK181.out) hb); have n8_ := Aside0.mk (below_step (by repeat (first | (with_reducible first | exact HB.out | apply below_alloc | apply pw_below_drewN | apply below_drew1 | refine below_set ?_ GE165.out | refine below_set ?_ GE175.out | refine below_set ?_ GE181.out) | exact HB.out)) hb); clear HO164; clear HO172; clear HO178; clear HO187; clear BK165; clear BK175; clear BK181; clear HB; have HO164 := n0_; have HO172 := n1_; have HO178 := n2_; have HO187 := n3_; have HO192 := n4_; have BK165 := n5_; have BK175 := n6_; have BK181 := n7_; have HB := n8_; clear n0_ n1_ n2_ n3_ n4_ n5_ n6_ n7_ n8_; (try clear hb); (try clear hb2); (try clear hk); (try clear hi); (try clear ho0)) | ((with_reducible refine gate_dst (N := 17) rfl ?_); (try (refine gate_guard (by rfl) ?_; dsimp only)); refine box_event ?hg (N := 17) ?hd (cs := #[.slice none 0 0]) (t := 24) ?hr ?_; (case hd => rfl); (case hg => rfl); (case hr => first | (go_simp; done) | (go_simp; rfl)); intro gb194 hg w40 hbox hb; have n0_ := Aside0.mk (Kd.R_below (by (with_reducible repeat (first | apply Kd.R_alloc | apply Kd.R_drewN | apply Kd.R_drew)); exact HO164.out) hb); have n1_ := Aside0.mk (Kd.R_below (by (with_reducible repeat (first | apply Kd.R_alloc | apply Kd.R_drewN | apply Kd.R_drew)); exact HO172.out) hb); have n2_ := Aside0.mk (Kd.R_below (by (with_reducible repeat (first | apply Kd.R_alloc | apply Kd.R_drewN | apply Kd.R_drew)); exact HO178.out) hb); have n3_ := Aside0.mk (Kd.R_below (by (with_reducible repeat (first | apply Kd.R_alloc | apply Kd.R_drewN | apply Kd.R_drew)); exact HO187.out) hb); have n4_ := Aside0.mk (Kd.R_below (by (with_reducible repeat (first | apply Kd.R_alloc | apply Kd.R_drewN | apply Kd.R_drew)); exact HO192.out) hb); have n5_ := Aside0.mk (blk_below (g := gb165) (o := .cells #[.slice Ao14 t162.length co14] 24 (0, 0)) (by (with_reducible repeat (first | refine blk_drewN ?_ _ | refine blk_drew ?_ | refine blk_alloc ?_ _)); exact BK165.out) hb); have n6_ := Aside0.mk (blk_below (g := gb175) (o := .cells #[.slice Ao22 t170.length co22] 24 (0, 0)) (by (with_reducible repeat (first | refine blk_drewN ?_ _ | refine blk_drew ?_ | refine blk_alloc ?_ _)); exact BK175.out) hb); have n7_ := Aside0.mk (blk_below (g := gb181) (o := .cells #[.slice Ao28 t176.length co28] 24 (0, 0)) (by (with_reducible repeat (first | refine blk_drewN ?_ _ | refine blk_drew ?_ | refine blk_alloc ?_ _)); exact BK181.out) hb); have n8_ := Aside0.mk (below_step (by repeat (first | (with_reducible first | exact HB.out | apply below_alloc | apply pw_below_drewN | apply below_drew1 | refine below_set ?_ GE165.out | refine below_set ?_ GE175.out | refine below_set ?_ GE181.out) | exact HB.out)) hb); have n9_ := Aside0.mk (hbox); have n10_ := Aside0.mk ((by rw [hg]; exact (below_size (by repeat (first | (with_reducible first | exact HB.out | apply below_alloc | apply pw_below_drewN | apply below_drew1 | refine below_set ?_ GE165.out | refine below_set ?_ GE175.out | refine below_set ?_ GE181.out) | exact HB.out))) : w.heap.size ≤ gb194)); have n11_ := Aside0.mk ((by rw [hg]; exact (below_size (by repeat (first | (with_reducible first | exact HB.out | apply below_alloc | apply pw_below_drewN | apply below_drew1 | refine below_set ?_ GE165.out | refine below_set ?_ GE175.out | refine below_set ?_ GE181.out) | exact HB.out))) : w.heap.size ≤ gb194)); have n12_ := Aside0.mk ((by rw [hg]; exact Nat.ne_of_lt (blk_lt (g := gb165) (o := .cells #[.slice Ao14 t162.length co14] 24 (0, 0)) (by (with_reducible repeat (first | refine blk_drewN ?_ _ | refine blk_drew ?_ | refine blk_alloc ?_ _)); exact BK165.out)) : gb165 ≠ gb194)); have n13_ := Aside0.mk ((by rw [hg]; exact Nat.ne_of_gt (blk_lt (g := gb165) (o := .cells #[.slice Ao14 t162.length co14] 24 (0, 0)) (by (with_reducible repeat (first | refine blk_drewN ?_ _ | refine blk_drew ?_ | refine blk_alloc ?_ _)); exact BK165.out)) : gb194 ≠ gb165)); have n14_ := Aside0.mk ((by rw [hg]; exact Nat.ne_of_lt (blk_lt (g := gb175) (o := .cells #[.slice Ao22 t170.length co22] 24 (0, 0)) (by (with_reducible repeat (first | refine blk_drewN ?_ _ | refine blk_drew ?_ | refine blk_alloc ?_ _)); exact BK175.out)) : gb175 ≠ gb194)); have n15_ := Aside0.mk ((by rw [hg]; exact Nat.ne_of_gt (blk_lt (g := gb175) (o := .cells #[.slice Ao22 t170.length co22] 24 (0, 0)) (by (with_reducible repeat (first | refine blk_drewN ?_ _ | refine blk_drew ?_ | refine blk_alloc ?_ _)); exact BK175.out)) : gb194 ≠ gb175)); have n16_ := Aside0.mk ((by rw [hg]; exact Nat.ne_of_lt (blk_lt (g := gb181) (o := .cells #[.slice Ao28 t176.length co28] 24 (0, 0)) (by (with_reducible repeat (first | refine blk_drewN ?_ _ | refine blk_drew ?_ | refine blk_alloc ?_ _)); exact BK181.out)) : gb181 ≠ gb194)); have n17_ := Aside0.mk ((by rw [hg]; exact Nat.ne_of_gt (blk_lt (g := gb181) (o := .cells #[.slice Ao28 t176.length co28] 24 (0, 0)) (by (with_reducible repeat (first | refine blk_drewN ?_ _ | refine blk_drew ?_ | refine blk_alloc ?_ _)); exact BK181.out)) : gb194 ≠ gb181)); clear HO164; clear HO172; clear HO178; clear HO187; clear HO192; clear BK165; clear BK175; clear BK181; clear HB; have HO164 := n0_; have HO172 := n1_; have HO178 := n2_; have HO187 := n3_; have HO192 := n4_; have BK165 := n5_; have BK175 := n6_; have BK181 := n7_; have HB := n8_; have BK194 := n9_; have GW194 := n10_; have GE194 := n11_; have NB165_194 := n12_; have NB194_165 := n13_; have NB175_194 := n14_; have NB194_175 := n15_; have NB181_194 := n16_; have NB194_181 := n17_; clear n0_ n1_ n2_ n3_ n4_ n5_ n6_ n7_ n8_ n9_ n10_ n11_ n12_ n13_ n14_ n15_ n16_ n17_; clear hb hbox hg; obtain ⟨Ao41, co41, eo41⟩ := Kd.R_slice HO192.out; subst eo41; have hnb42 := NB194_165.out; have hnc42 := NB165_194.out; have hnb43 := NB194_175.out; have hnc43 := NB175_194.out; have hnb44 := NB194_181.out; have hnc44 := NB181_194.out; have hcz45_0 : w40.cell? ⟨gb194, 0, none⟩ = some (.slice none 0 0) := (blk_cell BK194.out 0).trans rfl; have hfz45_0 := blk_frozen BK194.out 0; have hcz46_0 : w40.cell? ⟨gb165, 0, none⟩ = some (.slice Ao14 t162.length co14) := (blk_cell BK165.out 0).trans rfl; have hfz46_0 := blk_frozen BK165.out 0) | ((with_reducible refine gate_callee (f := 58) rfl ?_); refine goesL_ (some 70) rfl rfl Tryd.func58 (by kernel_rfl) rfl #[.agg #[.slice Ao14 t162.length co14]] rfl (by (try simp only [List.map_toArray, List.map_cons, List.map_nil]); first | done | rfl | (simp only [List.length_drop, List.length_take]; rfl)) ?_; (with_reducible refine (pack_Print.calls k _ _ t162 t195 t196 _ ?side1 ?side2 ?hgl_ A9.out).mono ?_); (case hgl_ => exact HGl.out.below (by repeat (first | (with_reducible first | exact HB.out | apply below_alloc | apply pw_below_drewN | apply below_drew1 | refine below_set ?_ GE165.out | refine below_set ?_ GE175.out | refine below_set ?_ GE181.out | refine below_set ?_ GE194.out) | exact HB.out)) (Nat.le_refl _)); (case side1 => refine (Kd.R_reads' (e := 48) (base := w.heap.size) (ok := fun k_ => ((((True ∧ some k_ ≠ (.slice Ao22 t170.length co22 : Value).ownBlock) ∧ some k_ ≠ (.slice Ao28 t176.length co28 : Value).ownBlock) ∧ some k_ ≠ (.slice Ao36 y185.length co36 : Value).ownBlock) ∧ some k_ ≠ (.slice Ao41 t190.length co41 : Value).ownBlock)) (n := t162.length) (c := co14) ?_).2.2; exact (by (with_reducible repeat (first | apply Kd.R_alloc | apply Kd.R_drewN | apply Kd.R_drew)); exact (Kd.R_mono (Kd.R_far (p := ⟨gb194, 0, none⟩) (Kd.R_types HO164.out BK194.out (by decide)) (fun _ hk => hk.2) (.slice Ao41 t190.length co41)) (fun _ h_ => h_.1)))); (case side2 => exact (Kd.R_reads' HO164.out).2.1); rintro e w47 ⟨rfl, hb⟩; refine ⟨_, rfl, ?_⟩; have n0_ := Aside0.mk (Kd.R_below (by (with_reducible repeat (first | apply Kd.R_alloc | apply Kd.R_drewN | apply Kd.R_drew)); exact (Kd.R_mono (Kd.R_far (p := ⟨gb194, 0, none⟩) (Kd.R_types HO164.out BK194.out (by decide)) (fun _ hk => hk.2) (.slice Ao41 t190.length co41)) (fun _ h_ => h_.1))) hb); have n1_ := Aside0.mk (Kd.R_below (by (with_reducible repeat (first | apply Kd.R_alloc | apply Kd.R_drewN | apply Kd.R_drew)); exact (Kd.R_mono (Kd.R_far (p := ⟨gb194, 0, none⟩) (Kd.R_types HO172.out BK194.out (by decide)) (fun _ hk => hk.2) (.slice Ao41 t190.length co41)) (fun _ h_ => h_.1))) hb); have n2_ := Aside0.mk (Kd.R_below (by (with_reducible repeat (first | apply Kd.R_alloc | apply Kd.R_drewN | apply Kd.R_drew)); exact (Kd.R_mono (Kd.R_far (p := ⟨gb194, 0, none⟩) (Kd.R_types HO178.out BK194.out (by decide)) (fun _ hk => hk.2) (.slice Ao41 t190.length co41)) (fun _ h_ => h_.1))) hb); have n3_ := Aside0.mk (Kd.R_below (by (with_reducible repeat (first | apply Kd.R_alloc | apply Kd.R_drewN | apply Kd.R_drew)); exact (Kd.R_mono (Kd.R_far (p := ⟨gb194, 0, none⟩) (Kd.R_types HO187.out BK194.out (by decide)) (fun _ hk => hk.2) (.slice Ao41 t190.length co41)) (fun _ h_ => h_.1))) hb); have n4_ := Aside0.mk (Kd.R_below (by (with_reducible repeat (first | apply Kd.R_alloc | apply Kd.R_drewN | apply Kd.R_drew)); exact (Kd.R_mono (Kd.R_far (p := ⟨gb194, 0, none⟩) (Kd.R_types HO192.out BK194.out (by decide)) (fun _ hk => hk.2) (.slice Ao41 t190.length co41)) (fun _ h_ => h_.1))) hb); have n5_ := Aside0.mk (blk_below (g := gb165) (o := .cells #[.slice Ao14 t162.length co14] 24 (0, 0)) (by (with_reducible repeat (first | refine blk_drewN ?_ _ | refine blk_drew ?_ | refine blk_alloc ?_ _)); refine blk_far ?_ NB165_194.out _; (with_reducible repeat (first | refine blk_drewN ?_ _ | refine blk_drew ?_ | refine blk_alloc ?_ _)); exact BK165.out) hb); have n6_ := Aside0.mk (blk_below (g := gb175) (o := .cells #[.slice Ao22 t170.length co22] 24 (0, 0)) (by (with_reducible repeat (first | refine blk_drewN ?_ _ | refine blk_drew ?_ | refine blk_alloc ?_ _)); refine blk_far ?_ NB175_194.out _; (with_reducible repeat (first | refine blk_drewN ?_ _ | refine blk_drew ?_ | refine blk_alloc ?_ _)); exact BK175.out) hb); have n7_ := Aside0.mk (blk_below (g := gb181) (o := .cells #[.slice Ao28 t176.length co28] 24 (0, 0)) (by (with_reducible repeat (first | refine blk_drewN ?_ _ | refine blk_drew ?_ | refine blk_alloc ?_ _)); refine blk_far ?_ NB181_194.out _; (with_reducible repeat (first | refine blk_drewN ?_ _ | refine blk_drew ?_ | refine blk_alloc ?_ _)); exact BK181.out) hb); have n8_ := Aside0.mk (blk_below (g := gb194) (o := .cells #[.slice Ao41 t190.length co41] 24 (0, 0)) (by (with_reducible repeat (first | refine blk_drewN ?_ _ | refine blk_drew ?_ | refine blk_alloc ?_ _)); refine blk_put (cs := #[.slice none 0 0]) ?_ 0 _ rfl; (with_reducible repeat (first | refine blk_drewN ?_ _ | refine blk_drew ?_ | refine blk_alloc ?_ _)); exact BK194.out) hb); have n9_ := Aside0.mk (below_step (by repeat (first | (with_reducible first | exact HB.out | apply below_alloc | apply pw_below_drewN | apply below_drew1 | refine below_set ?_ GE165.out | refine below_set ?_ GE175.out | refine below_set ?_ GE181.out | refine below_set ?_ GE194.out) | exact HB.out)) hb); clear HO164; clear HO172; clear HO178; clear HO187; clear HO192; clear BK165; clear BK175; clear BK181; clear BK194; clear HB; have HO164 := n0_; have HO172 := n1_; have HO178 := n2_; have HO187 := n3_; have HO192 := n4_; have BK165 := n5_; have BK175 := n6_; have BK181 := n7_; have BK194 := n8_; have HB := n9_; clear n0_ n1_ n2_ n3_ n4_ n5_ n6_ n7_ n8_ n9_; (try clear hb); (try clear hb2); (try clear hk); (try clear hi)) | ((with_reducible refine gate_callee (f := 33) rfl ?_); refine goesL_ (some 75) rfl rfl Tryd.func33 (by kernel_rfl) rfl #[.agg #[.slice none 0 0]] rfl (by (try simp only [List.map_toArray, List.map_cons, List.map_nil]); first | done | rfl | (simp only [List.length_drop, List.length_take]; rfl)) ?_; (refine (pack_Weakest.calls _ _ ([] : List (S48)) t197 t198 t199 _ ?side1 ?side2 A10.out).mono ?_); (case side1 => exact Kd.C_nil _ _); (case side2 => exact Nat.le_refl _); rintro e w48 ⟨rfl, hb⟩; refine ⟨_, rfl, ?_⟩; have n0_ := Aside0.mk (Kd.R_below (by (with_reducible repeat (first | apply Kd.R_alloc | apply Kd.R_drewN | apply Kd.R_drew)); exact HO164.out) hb); have n1_ := Aside0.mk (Kd.R_below (by (with_reducible repeat (first | apply Kd.R_alloc | apply Kd.R_drewN | apply Kd.R_drew)); exact HO172.out) hb); have n2_ := Aside0.mk (Kd.R_below (by (with_reducible repeat (first | apply Kd.R_alloc | apply Kd.R_drewN | apply Kd.R_drew)); exact HO178.out) hb); have n3_ := Aside0.mk (Kd.R_below (by (with_reducible repeat (first | apply Kd.R_alloc | apply Kd.R_drewN | apply Kd.R_drew)); exact HO187.out) hb); have n4_ := Aside0.mk (Kd.R_below (by (with_reducible repeat (first | apply Kd.R_alloc | apply Kd.R_drewN | apply Kd.R_drew)); exact HO192.out) hb); have n5_ := Aside0.mk (blk_below (g := gb165) (o := .cells #[.slice Ao14 t162.length co14] 24 (0, 0)) (by (with_reducible repeat (first | refine blk_drewN ?_ _ | refine blk_drew ?_ | refine blk_alloc ?_ _)); exact BK165.out) hb); have n6_ := Aside0.mk (blk_below (g := gb175) (o := .cells #[.slice Ao22 t170.length co22] 24 (0, 0)) (by (with_reducible repeat (first | refine blk_drewN ?_ _ | refine blk_drew ?_ | refine blk_alloc ?_ _)); exact BK175.out) hb); have n7_ := Aside0.mk (blk_below (g := gb181) (o := .cells #[.slice Ao28 t176.length co28] 24 (0, 0)) (by (with_reducible repeat (first | refine blk_drewN ?_ _ | refine blk_drew ?_ | refine blk_alloc ?_ _)); exact BK181.out) hb); have n8_ := Aside0.mk (blk_below (g := gb194) (o := .cells #[.slice Ao41 t190.length co41] 24 (0, 0)) (by (with_reducible repeat (first | refine blk_drewN ?_ _ | refine blk_drew ?_ | refine blk_alloc ?_ _)); exact BK194.out) hb); have n9_ := Aside0.mk (below_step (by repeat (first | (with_reducible first | exact HB.out | apply below_alloc | apply pw_below_drewN | apply below_drew1 | refine below_set ?_ GE165.out | refine below_set ?_ GE175.out | refine below_set ?_ GE181.out | refine below_set ?_ GE194.out) | exact HB.out)) hb); clear HO164; clear HO172; clear HO178; clear HO187; clear HO192; clear BK165; clear BK175; clear BK181; clear BK194; clear HB; have HO164 := n0_; have HO172 := n1_; have HO178 := n2_; have HO187 := n3_; have HO192 := n4_; have BK165 := n5_; have BK175 := n6_; have BK181 := n7_; have BK194 := n8_; have HB := n9_; clear n0_ n1_ n2_ n3_ n4_ n5_ n6_ n7_ n8_ n9_; (try clear hb); (try clear hb2); (try clear hk); (try clear hi)))
  (try simp only [Act.put, List.setIfInBounds_toArray, List.set_cons_zero, List.set_cons_succ])
  go_cut [112] (fun v112 wc => ∃ (kq : Nat) (x112_10 : Bool), v112 = .bool x112_10 ∧ Aside0 (snowlinelaw02_sane.j0 kq t166 t168 t173 t179 t182 t183 t188 t195 x112_10 t170 t176 t190 = some r) ∧ Aside0 (kq ≤ k) ∧ Aside0 (Kd.R k48 48 wc w.heap.size (fun k_ => some k_ ≠ ((.slice Ao22 t170.length co22) : Value).ownBlock ∧ some k_ ≠ ((.slice Ao28 t176.length co28) : Value).ownBlock ∧ some k_ ≠ ((.slice Ao41 t190.length co41) : Value).ownBlock) (.slice Ao14 t162.length co14) t162) ∧ Aside0 (Kd.R k48 48 wc w.heap.size (fun k_ => some k_ ≠ ((.slice Ao14 t162.length co14) : Value).ownBlock ∧ some k_ ≠ ((.slice Ao28 t176.length co28) : Value).ownBlock ∧ some k_ ≠ ((.slice Ao41 t190.length co41) : Value).ownBlock) (.slice Ao22 t170.length co22) t170) ∧ Aside0 (Kd.R k48 48 wc w.heap.size (fun k_ => some k_ ≠ ((.slice Ao14 t162.length co14) : Value).ownBlock ∧ some k_ ≠ ((.slice Ao22 t170.length co22) : Value).ownBlock ∧ some k_ ≠ ((.slice Ao41 t190.length co41) : Value).ownBlock) (.slice Ao28 t176.length co28) t176) ∧ Aside0 (Kd.R k48 48 wc w.heap.size (fun k_ => some k_ ≠ ((.slice Ao14 t162.length co14) : Value).ownBlock ∧ some k_ ≠ ((.slice Ao22 t170.length co22) : Value).ownBlock ∧ some k_ ≠ ((.slice Ao28 t176.length co28) : Value).ownBlock) (.slice Ao41 t190.length co41) t190) ∧ Aside0 (wc.heap[gb165]? = some (.cells #[(.slice Ao14 t162.length co14)] 24 (0, 0))) ∧ Aside0 (wc.heap[gb175]? = some (.cells #[(.slice Ao22 t170.length co22)] 24 (0, 0))) ∧ Aside0 (wc.heap[gb181]? = some (.cells #[(.slice Ao28 t176.length co28)] 24 (0, 0))) ∧ Aside0 (wc.heap[gb194]? = some (.cells #[(.slice Ao41 t190.length co41)] 24 (0, 0))) ∧ Aside0 (Below w.heap.size w wc))
  case first =>
    have H := HC11.out
    clear HC11
    by_cases c49 : t167 = 0
    · rw [if_pos c49] at H
      have c49b0 : (t167 == 0) = true := beq_iff_eq.mpr c49
      have c49b1 : (t167 != 0) = false := bne_eq_false_iff_eq.mpr c49
      clear c49
      (first | rw [c49b0] | (simp only [i64_w, i32_w]; rw [c49b0]) | skip)
      by_cases c50 : t169 = 0
      · rw [if_pos c50] at H
        have c50b0 : (t169 == 0) = true := beq_iff_eq.mpr c50
        have c50b1 : (t169 != 0) = false := bne_eq_false_iff_eq.mpr c50
        clear c50
        by_cases c51 : t174 = 0
        · rw [if_pos c51] at H
          have c51b0 : (t174 == 0) = true := beq_iff_eq.mpr c51
          have c51b1 : (t174 != 0) = false := bne_eq_false_iff_eq.mpr c51
          clear c51
          by_cases c52 : t180 = 0
          · rw [if_pos c52] at H
            have c52b0 : (t180 == 0) = true := beq_iff_eq.mpr c52
            have c52b1 : (t180 != 0) = false := bne_eq_false_iff_eq.mpr c52
            clear c52
            by_cases c53 : t184 = 0
            · rw [if_pos c53] at H
              have c53b0 : (t184 == 0) = true := beq_iff_eq.mpr c53
              have c53b1 : (t184 != 0) = false := bne_eq_false_iff_eq.mpr c53
              clear c53
              by_cases c54 : t189 = 0
              · rw [if_pos c54] at H
                have c54b0 : (t189 == 0) = true := beq_iff_eq.mpr c54
                have c54b1 : (t189 != 0) = false := bne_eq_false_iff_eq.mpr c54
                clear c54
                by_cases c55 : t193 = 0
                · rw [if_pos c55] at H
                  have c55b0 : (t193 == 0) = true := beq_iff_eq.mpr c55
                  have c55b1 : (t193 != 0) = false := bne_eq_false_iff_eq.mpr c55
                  clear c55
                  by_cases c56 : t196 = 0
                  · rw [if_pos c56] at H
                    have c56b0 : (t196 == 0) = true := beq_iff_eq.mpr c56
                    have c56b1 : (t196 != 0) = false := bne_eq_false_iff_eq.mpr c56
                    clear c56
                    have H' := Aside0.mk H
                    clear H
                    go_wp2
                    go_meet
                    case rel => exact ⟨_, ((t199 != 4)), (by first | rfl | (simp; done) | (simp [*]; done)), H', ⟨by first | omega | exact Nat.le_refl _⟩, ⟨by (with_reducible repeat (first | apply Kd.R_alloc | apply Kd.R_drewN | apply Kd.R_drew)); exact Kd.R_mono HO164.out (fun _ hk => ⟨hk.1.1.1.2, ⟨hk.1.1.2, hk.2⟩⟩)⟩, ⟨by (with_reducible repeat (first | apply Kd.R_alloc | apply Kd.R_drewN | apply Kd.R_drew)); exact Kd.R_mono HO172.out (fun _ hk => ⟨hk.1.1.1.2, ⟨hk.1.1.2, hk.2⟩⟩)⟩, ⟨by (with_reducible repeat (first | apply Kd.R_alloc | apply Kd.R_drewN | apply Kd.R_drew)); exact Kd.R_mono HO178.out (fun _ hk => ⟨hk.1.1.1.2, ⟨hk.1.1.2, hk.2⟩⟩)⟩, ⟨by (with_reducible repeat (first | apply Kd.R_alloc | apply Kd.R_drewN | apply Kd.R_drew)); exact Kd.R_mono HO192.out (fun _ hk => ⟨hk.1.1.1.2, ⟨hk.1.1.2, hk.1.2⟩⟩)⟩, ⟨by (with_reducible repeat (first | refine blk_drewN ?_ _ | refine blk_drew ?_ | refine blk_alloc ?_ _)); exact BK165.out⟩, ⟨by (with_reducible repeat (first | refine blk_drewN ?_ _ | refine blk_drew ?_ | refine blk_alloc ?_ _)); exact BK175.out⟩, ⟨by (with_reducible repeat (first | refine blk_drewN ?_ _ | refine blk_drew ?_ | refine blk_alloc ?_ _)); exact BK181.out⟩, ⟨by (with_reducible repeat (first | refine blk_drewN ?_ _ | refine blk_drew ?_ | refine blk_alloc ?_ _)); exact BK194.out⟩, ⟨by repeat (first | (with_reducible first | exact HB.out | apply below_alloc | apply pw_below_drewN | apply below_drew1 | refine below_set ?_ GE165.out | refine below_set ?_ GE175.out | refine below_set ?_ GE181.out | refine below_set ?_ GE194.out) | exact HB.out)⟩⟩
                  · rw [if_neg c56] at H
                    have c56b0 : (t196 == 0) = false := beq_eq_false_iff_ne.mpr c56
                    have c56b1 : (t196 != 0) = true := bne_iff_ne.mpr c56
                    have H' := Aside0.mk H
                    clear H
                    go_wp2
                    go_meet
                    case rel => exact ⟨_, (true), (by first | rfl | (simp; done) | (simp [*]; done)), H', ⟨by first | omega | exact Nat.le_refl _⟩, ⟨by (with_reducible repeat (first | apply Kd.R_alloc | apply Kd.R_drewN | apply Kd.R_drew)); exact Kd.R_mono HO164.out (fun _ hk => ⟨hk.1.1.1.2, ⟨hk.1.1.2, hk.2⟩⟩)⟩, ⟨by (with_reducible repeat (first | apply Kd.R_alloc | apply Kd.R_drewN | apply Kd.R_drew)); exact Kd.R_mono HO172.out (fun _ hk => ⟨hk.1.1.1.2, ⟨hk.1.1.2, hk.2⟩⟩)⟩, ⟨by (with_reducible repeat (first | apply Kd.R_alloc | apply Kd.R_drewN | apply Kd.R_drew)); exact Kd.R_mono HO178.out (fun _ hk => ⟨hk.1.1.1.2, ⟨hk.1.1.2, hk.2⟩⟩)⟩, ⟨by (with_reducible repeat (first | apply Kd.R_alloc | apply Kd.R_drewN | apply Kd.R_drew)); exact Kd.R_mono HO192.out (fun _ hk => ⟨hk.1.1.1.2, ⟨hk.1.1.2, hk.1.2⟩⟩)⟩, ⟨by (with_reducible repeat (first | refine blk_drewN ?_ _ | refine blk_drew ?_ | refine blk_alloc ?_ _)); exact BK165.out⟩, ⟨by (with_reducible repeat (first | refine blk_drewN ?_ _ | refine blk_drew ?_ | refine blk_alloc ?_ _)); exact BK175.out⟩, ⟨by (with_reducible repeat (first | refine blk_drewN ?_ _ | refine blk_drew ?_ | refine blk_alloc ?_ _)); exact BK181.out⟩, ⟨by (with_reducible repeat (first | refine blk_drewN ?_ _ | refine blk_drew ?_ | refine blk_alloc ?_ _)); exact BK194.out⟩, ⟨by repeat (first | (with_reducible first | exact HB.out | apply below_alloc | apply pw_below_drewN | apply below_drew1 | refine below_set ?_ GE165.out | refine below_set ?_ GE175.out | refine below_set ?_ GE181.out | refine below_set ?_ GE194.out) | exact HB.out)⟩⟩
                · rw [if_neg c55] at H
                  have c55b0 : (t193 == 0) = false := beq_eq_false_iff_ne.mpr c55
                  have c55b1 : (t193 != 0) = true := bne_iff_ne.mpr c55
                  have H' := Aside0.mk H
                  clear H
                  go_wp2
                  go_meet
                  case rel => exact ⟨_, (true), (by first | rfl | (simp; done) | (simp [*]; done)), H', ⟨by first | omega | exact Nat.le_refl _⟩, ⟨by (with_reducible repeat (first | apply Kd.R_alloc | apply Kd.R_drewN | apply Kd.R_drew)); exact Kd.R_mono HO164.out (fun _ hk => ⟨hk.1.1.1.2, ⟨hk.1.1.2, hk.2⟩⟩)⟩, ⟨by (with_reducible repeat (first | apply Kd.R_alloc | apply Kd.R_drewN | apply Kd.R_drew)); exact Kd.R_mono HO172.out (fun _ hk => ⟨hk.1.1.1.2, ⟨hk.1.1.2, hk.2⟩⟩)⟩, ⟨by (with_reducible repeat (first | apply Kd.R_alloc | apply Kd.R_drewN | apply Kd.R_drew)); exact Kd.R_mono HO178.out (fun _ hk => ⟨hk.1.1.1.2, ⟨hk.1.1.2, hk.2⟩⟩)⟩, ⟨by (with_reducible repeat (first | apply Kd.R_alloc | apply Kd.R_drewN | apply Kd.R_drew)); exact Kd.R_mono HO192.out (fun _ hk => ⟨hk.1.1.1.2, ⟨hk.1.1.2, hk.1.2⟩⟩)⟩, ⟨by (with_reducible repeat (first | refine blk_drewN ?_ _ | refine blk_drew ?_ | refine blk_alloc ?_ _)); exact BK165.out⟩, ⟨by (with_reducible repeat (first | refine blk_drewN ?_ _ | refine blk_drew ?_ | refine blk_alloc ?_ _)); exact BK175.out⟩, ⟨by (with_reducible repeat (first | refine blk_drewN ?_ _ | refine blk_drew ?_ | refine blk_alloc ?_ _)); exact BK181.out⟩, ⟨by (with_reducible repeat (first | refine blk_drewN ?_ _ | refine blk_drew ?_ | refine blk_alloc ?_ _)); exact BK194.out⟩, ⟨by repeat (first | (with_reducible first | exact HB.out | apply below_alloc | apply pw_below_drewN | apply below_drew1 | refine below_set ?_ GE165.out | refine below_set ?_ GE175.out | refine below_set ?_ GE181.out | refine below_set ?_ GE194.out) | exact HB.out)⟩⟩
              · rw [if_neg c54] at H
                have c54b0 : (t189 == 0) = false := beq_eq_false_iff_ne.mpr c54
                have c54b1 : (t189 != 0) = true := bne_iff_ne.mpr c54
                have H' := Aside0.mk H
                clear H
                go_wp2
                go_meet
                case rel => exact ⟨_, (true), (by first | rfl | (simp; done) | (simp [*]; done)), H', ⟨by first | omega | exact Nat.le_refl _⟩, ⟨by (with_reducible repeat (first | apply Kd.R_alloc | apply Kd.R_drewN | apply Kd.R_drew)); exact Kd.R_mono HO164.out (fun _ hk => ⟨hk.1.1.1.2, ⟨hk.1.1.2, hk.2⟩⟩)⟩, ⟨by (with_reducible repeat (first | apply Kd.R_alloc | apply Kd.R_drewN | apply Kd.R_drew)); exact Kd.R_mono HO172.out (fun _ hk => ⟨hk.1.1.1.2, ⟨hk.1.1.2, hk.2⟩⟩)⟩, ⟨by (with_reducible repeat (first | apply Kd.R_alloc | apply Kd.R_drewN | apply Kd.R_drew)); exact Kd.R_mono HO178.out (fun _ hk => ⟨hk.1.1.1.2, ⟨hk.1.1.2, hk.2⟩⟩)⟩, ⟨by (with_reducible repeat (first | apply Kd.R_alloc | apply Kd.R_drewN | apply Kd.R_drew)); exact Kd.R_mono HO192.out (fun _ hk => ⟨hk.1.1.1.2, ⟨hk.1.1.2, hk.1.2⟩⟩)⟩, ⟨by (with_reducible repeat (first | refine blk_drewN ?_ _ | refine blk_drew ?_ | refine blk_alloc ?_ _)); exact BK165.out⟩, ⟨by (with_reducible repeat (first | refine blk_drewN ?_ _ | refine blk_drew ?_ | refine blk_alloc ?_ _)); exact BK175.out⟩, ⟨by (with_reducible repeat (first | refine blk_drewN ?_ _ | refine blk_drew ?_ | refine blk_alloc ?_ _)); exact BK181.out⟩, ⟨by (with_reducible repeat (first | refine blk_drewN ?_ _ | refine blk_drew ?_ | refine blk_alloc ?_ _)); exact BK194.out⟩, ⟨by repeat (first | (with_reducible first | exact HB.out | apply below_alloc | apply pw_below_drewN | apply below_drew1 | refine below_set ?_ GE165.out | refine below_set ?_ GE175.out | refine below_set ?_ GE181.out | refine below_set ?_ GE194.out) | exact HB.out)⟩⟩
            · rw [if_neg c53] at H
              have c53b0 : (t184 == 0) = false := beq_eq_false_iff_ne.mpr c53
              have c53b1 : (t184 != 0) = true := bne_iff_ne.mpr c53
              have H' := Aside0.mk H
              clear H
              go_wp2
              go_meet
              case rel => exact ⟨_, (true), (by first | rfl | (simp; done) | (simp [*]; done)), H', ⟨by first | omega | exact Nat.le_refl _⟩, ⟨by (with_reducible repeat (first | apply Kd.R_alloc | apply Kd.R_drewN | apply Kd.R_drew)); exact Kd.R_mono HO164.out (fun _ hk => ⟨hk.1.1.1.2, ⟨hk.1.1.2, hk.2⟩⟩)⟩, ⟨by (with_reducible repeat (first | apply Kd.R_alloc | apply Kd.R_drewN | apply Kd.R_drew)); exact Kd.R_mono HO172.out (fun _ hk => ⟨hk.1.1.1.2, ⟨hk.1.1.2, hk.2⟩⟩)⟩, ⟨by (with_reducible repeat (first | apply Kd.R_alloc | apply Kd.R_drewN | apply Kd.R_drew)); exact Kd.R_mono HO178.out (fun _ hk => ⟨hk.1.1.1.2, ⟨hk.1.1.2, hk.2⟩⟩)⟩, ⟨by (with_reducible repeat (first | apply Kd.R_alloc | apply Kd.R_drewN | apply Kd.R_drew)); exact Kd.R_mono HO192.out (fun _ hk => ⟨hk.1.1.1.2, ⟨hk.1.1.2, hk.1.2⟩⟩)⟩, ⟨by (with_reducible repeat (first | refine blk_drewN ?_ _ | refine blk_drew ?_ | refine blk_alloc ?_ _)); exact BK165.out⟩, ⟨by (with_reducible repeat (first | refine blk_drewN ?_ _ | refine blk_drew ?_ | refine blk_alloc ?_ _)); exact BK175.out⟩, ⟨by (with_reducible repeat (first | refine blk_drewN ?_ _ | refine blk_drew ?_ | refine blk_alloc ?_ _)); exact BK181.out⟩, ⟨by (with_reducible repeat (first | refine blk_drewN ?_ _ | refine blk_drew ?_ | refine blk_alloc ?_ _)); exact BK194.out⟩, ⟨by repeat (first | (with_reducible first | exact HB.out | apply below_alloc | apply pw_below_drewN | apply below_drew1 | refine below_set ?_ GE165.out | refine below_set ?_ GE175.out | refine below_set ?_ GE181.out | refine below_set ?_ GE194.out) | exact HB.out)⟩⟩
          · rw [if_neg c52] at H
            have c52b0 : (t180 == 0) = false := beq_eq_false_iff_ne.mpr c52
            have c52b1 : (t180 != 0) = true := bne_iff_ne.mpr c52
            have H' := Aside0.mk H
            clear H
            go_wp2
            go_meet
            case rel => exact ⟨_, (true), (by first | rfl | (simp; done) | (simp [*]; done)), H', ⟨by first | omega | exact Nat.le_refl _⟩, ⟨by (with_reducible repeat (first | apply Kd.R_alloc | apply Kd.R_drewN | apply Kd.R_drew)); exact Kd.R_mono HO164.out (fun _ hk => ⟨hk.1.1.1.2, ⟨hk.1.1.2, hk.2⟩⟩)⟩, ⟨by (with_reducible repeat (first | apply Kd.R_alloc | apply Kd.R_drewN | apply Kd.R_drew)); exact Kd.R_mono HO172.out (fun _ hk => ⟨hk.1.1.1.2, ⟨hk.1.1.2, hk.2⟩⟩)⟩, ⟨by (with_reducible repeat (first | apply Kd.R_alloc | apply Kd.R_drewN | apply Kd.R_drew)); exact Kd.R_mono HO178.out (fun _ hk => ⟨hk.1.1.1.2, ⟨hk.1.1.2, hk.2⟩⟩)⟩, ⟨by (with_reducible repeat (first | apply Kd.R_alloc | apply Kd.R_drewN | apply Kd.R_drew)); exact Kd.R_mono HO192.out (fun _ hk => ⟨hk.1.1.1.2, ⟨hk.1.1.2, hk.1.2⟩⟩)⟩, ⟨by (with_reducible repeat (first | refine blk_drewN ?_ _ | refine blk_drew ?_ | refine blk_alloc ?_ _)); exact BK165.out⟩, ⟨by (with_reducible repeat (first | refine blk_drewN ?_ _ | refine blk_drew ?_ | refine blk_alloc ?_ _)); exact BK175.out⟩, ⟨by (with_reducible repeat (first | refine blk_drewN ?_ _ | refine blk_drew ?_ | refine blk_alloc ?_ _)); exact BK181.out⟩, ⟨by (with_reducible repeat (first | refine blk_drewN ?_ _ | refine blk_drew ?_ | refine blk_alloc ?_ _)); exact BK194.out⟩, ⟨by repeat (first | (with_reducible first | exact HB.out | apply below_alloc | apply pw_below_drewN | apply below_drew1 | refine below_set ?_ GE165.out | refine below_set ?_ GE175.out | refine below_set ?_ GE181.out | refine below_set ?_ GE194.out) | exact HB.out)⟩⟩
        · rw [if_neg c51] at H
          have c51b0 : (t174 == 0) = false := beq_eq_false_iff_ne.mpr c51
          have c51b1 : (t174 != 0) = true := bne_iff_ne.mpr c51
          have H' := Aside0.mk H
          clear H
          go_wp2
          go_meet
          case rel => exact ⟨_, (true), (by first | rfl | (simp; done) | (simp [*]; done)), H', ⟨by first | omega | exact Nat.le_refl _⟩, ⟨by (with_reducible repeat (first | apply Kd.R_alloc | apply Kd.R_drewN | apply Kd.R_drew)); exact Kd.R_mono HO164.out (fun _ hk => ⟨hk.1.1.1.2, ⟨hk.1.1.2, hk.2⟩⟩)⟩, ⟨by (with_reducible repeat (first | apply Kd.R_alloc | apply Kd.R_drewN | apply Kd.R_drew)); exact Kd.R_mono HO172.out (fun _ hk => ⟨hk.1.1.1.2, ⟨hk.1.1.2, hk.2⟩⟩)⟩, ⟨by (with_reducible repeat (first | apply Kd.R_alloc | apply Kd.R_drewN | apply Kd.R_drew)); exact Kd.R_mono HO178.out (fun _ hk => ⟨hk.1.1.1.2, ⟨hk.1.1.2, hk.2⟩⟩)⟩, ⟨by (with_reducible repeat (first | apply Kd.R_alloc | apply Kd.R_drewN | apply Kd.R_drew)); exact Kd.R_mono HO192.out (fun _ hk => ⟨hk.1.1.1.2, ⟨hk.1.1.2, hk.1.2⟩⟩)⟩, ⟨by (with_reducible repeat (first | refine blk_drewN ?_ _ | refine blk_drew ?_ | refine blk_alloc ?_ _)); exact BK165.out⟩, ⟨by (with_reducible repeat (first | refine blk_drewN ?_ _ | refine blk_drew ?_ | refine blk_alloc ?_ _)); exact BK175.out⟩, ⟨by (with_reducible repeat (first | refine blk_drewN ?_ _ | refine blk_drew ?_ | refine blk_alloc ?_ _)); exact BK181.out⟩, ⟨by (with_reducible repeat (first | refine blk_drewN ?_ _ | refine blk_drew ?_ | refine blk_alloc ?_ _)); exact BK194.out⟩, ⟨by repeat (first | (with_reducible first | exact HB.out | apply below_alloc | apply pw_below_drewN | apply below_drew1 | refine below_set ?_ GE165.out | refine below_set ?_ GE175.out | refine below_set ?_ GE181.out | refine below_set ?_ GE194.out) | exact HB.out)⟩⟩
      · rw [if_neg c50] at H
        have c50b0 : (t169 == 0) = false := beq_eq_false_iff_ne.mpr c50
        have c50b1 : (t169 != 0) = true := bne_iff_ne.mpr c50
        have H' := Aside0.mk H
        clear H
        go_wp2
        go_meet
        case rel => exact ⟨_, (true), (by first | rfl | (simp; done) | (simp [*]; done)), H', ⟨by first | omega | exact Nat.le_refl _⟩, ⟨by (with_reducible repeat (first | apply Kd.R_alloc | apply Kd.R_drewN | apply Kd.R_drew)); exact Kd.R_mono HO164.out (fun _ hk => ⟨hk.1.1.1.2, ⟨hk.1.1.2, hk.2⟩⟩)⟩, ⟨by (with_reducible repeat (first | apply Kd.R_alloc | apply Kd.R_drewN | apply Kd.R_drew)); exact Kd.R_mono HO172.out (fun _ hk => ⟨hk.1.1.1.2, ⟨hk.1.1.2, hk.2⟩⟩)⟩, ⟨by (with_reducible repeat (first | apply Kd.R_alloc | apply Kd.R_drewN | apply Kd.R_drew)); exact Kd.R_mono HO178.out (fun _ hk => ⟨hk.1.1.1.2, ⟨hk.1.1.2, hk.2⟩⟩)⟩, ⟨by (with_reducible repeat (first | apply Kd.R_alloc | apply Kd.R_drewN | apply Kd.R_drew)); exact Kd.R_mono HO192.out (fun _ hk => ⟨hk.1.1.1.2, ⟨hk.1.1.2, hk.1.2⟩⟩)⟩, ⟨by (with_reducible repeat (first | refine blk_drewN ?_ _ | refine blk_drew ?_ | refine blk_alloc ?_ _)); exact BK165.out⟩, ⟨by (with_reducible repeat (first | refine blk_drewN ?_ _ | refine blk_drew ?_ | refine blk_alloc ?_ _)); exact BK175.out⟩, ⟨by (with_reducible repeat (first | refine blk_drewN ?_ _ | refine blk_drew ?_ | refine blk_alloc ?_ _)); exact BK181.out⟩, ⟨by (with_reducible repeat (first | refine blk_drewN ?_ _ | refine blk_drew ?_ | refine blk_alloc ?_ _)); exact BK194.out⟩, ⟨by repeat (first | (with_reducible first | exact HB.out | apply below_alloc | apply pw_below_drewN | apply below_drew1 | refine below_set ?_ GE165.out | refine below_set ?_ GE175.out | refine below_set ?_ GE181.out | refine below_set ?_ GE194.out) | exact HB.out)⟩⟩
    · rw [if_neg c49] at H
      have c49b0 : (t167 == 0) = false := beq_eq_false_iff_ne.mpr c49
      have c49b1 : (t167 != 0) = true := bne_iff_ne.mpr c49
      (first | rw [c49b0] | (simp only [i64_w, i32_w]; rw [c49b0]) | skip)
      have H' := Aside0.mk H
      clear H
      go_wp2
      go_meet
      case rel => exact ⟨_, (true), (by first | rfl | (simp; done) | (simp [*]; done)), H', ⟨by first | omega | exact Nat.le_refl _⟩, ⟨by (with_reducible repeat (first | apply Kd.R_alloc | apply Kd.R_drewN | apply Kd.R_drew)); exact Kd.R_mono HO164.out (fun _ hk => ⟨hk.1.1.1.2, ⟨hk.1.1.2, hk.2⟩⟩)⟩, ⟨by (with_reducible repeat (first | apply Kd.R_alloc | apply Kd.R_drewN | apply Kd.R_drew)); exact Kd.R_mono HO172.out (fun _ hk => ⟨hk.1.1.1.2, ⟨hk.1.1.2, hk.2⟩⟩)⟩, ⟨by (with_reducible repeat (first | apply Kd.R_alloc | apply Kd.R_drewN | apply Kd.R_drew)); exact Kd.R_mono HO178.out (fun _ hk => ⟨hk.1.1.1.2, ⟨hk.1.1.2, hk.2⟩⟩)⟩, ⟨by (with_reducible repeat (first | apply Kd.R_alloc | apply Kd.R_drewN | apply Kd.R_drew)); exact Kd.R_mono HO192.out (fun _ hk => ⟨hk.1.1.1.2, ⟨hk.1.1.2, hk.1.2⟩⟩)⟩, ⟨by (with_reducible repeat (first | refine blk_drewN ?_ _ | refine blk_drew ?_ | refine blk_alloc ?_ _)); exact BK165.out⟩, ⟨by (with_reducible repeat (first | refine blk_drewN ?_ _ | refine blk_drew ?_ | refine blk_alloc ?_ _)); exact BK175.out⟩, ⟨by (with_reducible repeat (first | refine blk_drewN ?_ _ | refine blk_drew ?_ | refine blk_alloc ?_ _)); exact BK181.out⟩, ⟨by (with_reducible repeat (first | refine blk_drewN ?_ _ | refine blk_drew ?_ | refine blk_alloc ?_ _)); exact BK194.out⟩, ⟨by repeat (first | (with_reducible first | exact HB.out | apply below_alloc | apply pw_below_drewN | apply below_drew1 | refine below_set ?_ GE165.out | refine below_set ?_ GE175.out | refine below_set ?_ GE181.out | refine below_set ?_ GE194.out) | exact HB.out)⟩⟩
  case rest =>
    clear HC11
    try clear c1
    try clear c2
    try clear p2
    try clear c3
    try clear c4
    try clear c5
    try clear c18
    try clear c21
    try clear c23
    try clear c24
    try clear c26
    try clear c29
    try clear c30
    try clear c33
    try clear c37
    try clear c42
    try clear c43
    try clear c44
    try clear c49
    try clear c49b0
    try clear c49b1
    try clear c50
    try clear c50b0
    try clear c50b1
    try clear c51
    try clear c51b0
    try clear c51b1
    try clear c52
    try clear c52b0
    try clear c52b1
    try clear c53
    try clear c53b0
    try clear c53b1
    try clear c54
    try clear c54b0
    try clear c54b1
    try clear c55
    try clear c55b0
    try clear c55b1
    try clear c56
    try clear c56b0
    try clear c56b1
    try clear hcz15_0
    try clear hcz17_0
    try clear hcz19_0
    try clear hcz24_0
    try clear hcz25_0
    try clear hcz31_0
    try clear hcz32_0
    try clear hcz38_0
    try clear hcz45_0
    try clear hcz46_0
    try clear hfz15_0
    try clear hfz17_0
    try clear hfz19_0
    try clear hfz24_0
    try clear hfz25_0
    try clear hfz31_0
    try clear hfz32_0
    try clear hfz38_0
    try clear hfz45_0
    try clear hfz46_0
    obtain ⟨kq, x112_10, rfl, HA, HJ10, HO_166000, HO_176000, HO_182000, HO_195000, BK165, BK175, BK181, BK194, HB⟩ := hcut
    cases kq with
    | zero => exact absurd HA.out (by simp [snowlinelaw02_sane.j0])
    | succ kj10 =>
      have H := HA.out
      clear HA
      simp only [snowlinelaw02_sane.j0] at H
      by_cases c57 : x112_10 = true
      · subst c57
        have H1 : (some false) = some r := by rw [if_pos rfl] at H; exact H
        clear H
        have H := H1
        clear H1
        obtain rfl := Option.some.inj H
        go_wp2
        go_ret
        exact ⟨by first | rfl | (simp [errW_none, errW_some] <;> rfl) | (simp [*, errW_none, errW_some] <;> rfl), by repeat (first | (with_reducible first | exact HB.out | apply below_alloc | apply pw_below_drewN | apply below_drew1 | refine below_set ?_ GE165.out | refine below_set ?_ GE175.out | refine below_set ?_ GE181.out | refine below_set ?_ GE194.out) | exact HB.out)⟩
      · replace c57 := Bool.eq_false_iff.mpr c57
        subst c57
        have H1 : (if t166 = 142 then (if t168 = 10 then (if t173 = 13 then (if t179 = 0 then (if t182 = 1 then (if t183 = 42 then (if t188 = 27 then (if t195.toList = ([112, 97, 99, 107, 32, 52, 48, 47, 50, 47, 48, 32, 49, 48, 48, 47, 48, 47, 53] : List UInt8) then ((snowlineref02_Same.f kj10 t170 (([(⟨19, 0, 0⟩ : S48), (⟨105, 5, 0⟩ : S48)] : List (S48)))).bind fun t203 => (if t203 = true then ((snowlineref02_Same.f kj10 t176 (([(⟨92, 0, 3⟩ : S48)] : List (S48)))).bind fun t207 => (if t207 = true then ((snowlineref02_Same.f kj10 t190 (([(⟨142, 0, 3⟩ : S48)] : List (S48)))).bind fun t211 => (some t211)) else (some false))) else (some false))) else (some false)) else (some false)) else (some false)) else (some false)) else (some false)) else (some false)) else (some false)) else (some false)) = some r := by rw [if_neg (show ¬ (false = true) by decide)] at H; exact H
        clear H
        have H := H1
        clear H1
        by_cases c58 : t166 = 142
        · rw [if_pos c58] at H
          have c58b0 : (t166 == 142) = true := beq_iff_eq.mpr c58
          have c58b1 : (t166 != 142) = false := bne_eq_false_iff_eq.mpr c58
          clear c58
          by_cases c59 : t168 = 10
          · rw [if_pos c59] at H
            have c59b0 : (t168 == 10) = true := beq_iff_eq.mpr c59
            have c59b1 : (t168 != 10) = false := bne_eq_false_iff_eq.mpr c59
            clear c59
            by_cases c60 : t173 = 13
            · rw [if_pos c60] at H
              have c60b0 : (t173 == 13) = true := beq_iff_eq.mpr c60
              have c60b1 : (t173 != 13) = false := bne_eq_false_iff_eq.mpr c60
              clear c60
              by_cases c61 : t179 = 0
              · rw [if_pos c61] at H
                have c61b0 : (t179 == 0) = true := beq_iff_eq.mpr c61
                have c61b1 : (t179 != 0) = false := bne_eq_false_iff_eq.mpr c61
                clear c61
                by_cases c62 : t182 = 1
                · rw [if_pos c62] at H
                  have c62b0 : (t182 == 1) = true := beq_iff_eq.mpr c62
                  have c62b1 : (t182 != 1) = false := bne_eq_false_iff_eq.mpr c62
                  clear c62
                  by_cases c63 : t183 = 42
                  · rw [if_pos c63] at H
                    have c63b0 : (t183 == 42) = true := beq_iff_eq.mpr c63
                    have c63b1 : (t183 != 42) = false := bne_eq_false_iff_eq.mpr c63
                    clear c63
                    by_cases c64 : t188 = 27
                    · rw [if_pos c64] at H
                      have c64b0 : (t188 == 27) = true := beq_iff_eq.mpr c64
                      have c64b1 : (t188 != 27) = false := bne_eq_false_iff_eq.mpr c64
                      clear c64
                      by_cases c65 : t195.toList = ([112, 97, 99, 107, 32, 52, 48, 47, 50, 47, 48, 32, 49, 48, 48, 47, 48, 47, 53] : List UInt8)
                      · rw [if_pos c65] at H
                        have c65b0 : (t195.toList == ([112, 97, 99, 107, 32, 52, 48, 47, 50, 47, 48, 32, 49, 48, 48, 47, 48, 47, 53] : List UInt8)) = true := beq_iff_eq.mpr c65
                        have c65b1 : (t195.toList != ([112, 97, 99, 107, 32, 52, 48, 47, 50, 47, 48, 32, 49, 48, 48, 47, 48, 47, 53] : List UInt8)) = false := bne_eq_false_iff_eq.mpr c65
                        clear c65
                        obtain ⟨y200, hy200⟩ : ∃ y_ : List (S48), y_ = (([(⟨19, 0, 0⟩ : S48), (⟨105, 5, 0⟩ : S48)] : List (S48))) := ⟨_, rfl⟩
                        replace H : ((snowlineref02_Same.f kj10 t170 y200).bind fun t203 => (if t203 = true then ((snowlineref02_Same.f kj10 t176 (([(⟨92, 0, 3⟩ : S48)] : List (S48)))).bind fun t207 => (if t207 = true then ((snowlineref02_Same.f kj10 t190 (([(⟨142, 0, 3⟩ : S48)] : List (S48)))).bind fun t211 => (some t211)) else (some false))) else (some false))) = some r := by first | (rw [hy200]; with_reducible exact H) | (have H2_ := (Option.bind_some _ _).symm.trans H; rw [hy200]; with_reducible exact H2_) | (have H2_ := (Option.bind_some _ _).symm.trans H; with_reducible exact H2_) | with_reducible exact H | (rw [hy200]; exact H) | exact H
                        have Ny200 := Aside0.mk hy200
                        clear hy200
                        replace H := Option.bind_eq_some_iff.mp H
                        obtain ⟨t203, A660, H⟩ := H
                        replace H : (if t203 = true then ((snowlineref02_Same.f kj10 t176 (([(⟨92, 0, 3⟩ : S48)] : List (S48)))).bind fun t207 => (if t207 = true then ((snowlineref02_Same.f kj10 t190 (([(⟨142, 0, 3⟩ : S48)] : List (S48)))).bind fun t211 => (some t211)) else (some false))) else (some false)) = some r := H
                        have A66 := Aside0.mk A660
                        clear A660
                        by_cases c67 : t203 = true
                        · subst c67
                          have H1 : ((snowlineref02_Same.f kj10 t176 (([(⟨92, 0, 3⟩ : S48)] : List (S48)))).bind fun t207 => (if t207 = true then ((snowlineref02_Same.f kj10 t190 (([(⟨142, 0, 3⟩ : S48)] : List (S48)))).bind fun t211 => (some t211)) else (some false))) = some r := by rw [if_pos rfl] at H; exact H
                          clear H
                          have H := H1
                          clear H1
                          obtain ⟨y204, hy204⟩ : ∃ y_ : List (S48), y_ = (([(⟨92, 0, 3⟩ : S48)] : List (S48))) := ⟨_, rfl⟩
                          replace H : ((snowlineref02_Same.f kj10 t176 y204).bind fun t207 => (if t207 = true then ((snowlineref02_Same.f kj10 t190 (([(⟨142, 0, 3⟩ : S48)] : List (S48)))).bind fun t211 => (some t211)) else (some false))) = some r := by first | (rw [hy204]; with_reducible exact H) | (have H2_ := (Option.bind_some _ _).symm.trans H; rw [hy204]; with_reducible exact H2_) | (have H2_ := (Option.bind_some _ _).symm.trans H; with_reducible exact H2_) | with_reducible exact H | (rw [hy204]; exact H) | exact H
                          have Ny204 := Aside0.mk hy204
                          clear hy204
                          replace H := Option.bind_eq_some_iff.mp H
                          obtain ⟨t207, A680, H⟩ := H
                          replace H : (if t207 = true then ((snowlineref02_Same.f kj10 t190 (([(⟨142, 0, 3⟩ : S48)] : List (S48)))).bind fun t211 => (some t211)) else (some false)) = some r := H
                          have A68 := Aside0.mk A680
                          clear A680
                          by_cases c69 : t207 = true
                          · subst c69
                            have H1 : ((snowlineref02_Same.f kj10 t190 (([(⟨142, 0, 3⟩ : S48)] : List (S48)))).bind fun t211 => (some t211)) = some r := by rw [if_pos rfl] at H; exact H
                            clear H
                            have H := H1
                            clear H1
                            obtain ⟨y208, hy208⟩ : ∃ y_ : List (S48), y_ = (([(⟨142, 0, 3⟩ : S48)] : List (S48))) := ⟨_, rfl⟩
                            replace H : ((snowlineref02_Same.f kj10 t190 y208).bind fun t211 => (some t211)) = some r := by first | (rw [hy208]; with_reducible exact H) | (have H2_ := (Option.bind_some _ _).symm.trans H; rw [hy208]; with_reducible exact H2_) | (have H2_ := (Option.bind_some _ _).symm.trans H; with_reducible exact H2_) | with_reducible exact H | (rw [hy208]; exact H) | exact H
                            have Ny208 := Aside0.mk hy208
                            clear hy208
                            replace H := Option.bind_eq_some_iff.mp H
                            obtain ⟨t211, A700, H⟩ := H
                            replace H : (some t211) = some r := H
                            have A70 := Aside0.mk A700
                            clear A700
                            obtain rfl := Option.some.inj H
                            have hnb71 := NB175_165.out
                            have hnc71 := NB165_175.out
                            have hnb72 := NB175_181.out
                            have hnc72 := NB181_175.out
                            have hnb73 := NB175_194.out
                            have hnc73 := NB194_175.out
                            have hcz74_0 : wc.cell? ⟨gb175, 0, none⟩ = some (.slice Ao22 t170.length co22) := (blk_cell BK175.out 0).trans rfl
                            have hfz74_0 := blk_frozen BK175.out 0
                            go_wp2_with (first | ((with_reducible refine gate_dst (N := 147) rfl ?_); (try (refine gate_guard (by rfl) ?_; dsimp only)); refine Kd.R_lit k48 _ 48 ?hg (N := 147) ?hd (xs := ([(⟨19, 0, 0⟩ : S48), (⟨105, 5, 0⟩ : S48)] : List (S48))) (inner := [.int .i64 19, .int .i64 0, .int .i64 0, .int .i64 105, .int .i64 5, .int .i64 0]) (ok := fun _ => True) (okp := fun _ => True) ?hr ?hp (fun _ hk => hk) trivial (Below.refl _ _) (Nat.le_refl _) (by simp) ?_; (case hd => rfl); (case hg => rfl); (case hr => first | (go_simp; done) | (go_simp; rfl)); (case hp => exact (Reps.c3 (show Kd.M k48 _ _ _ (⟨19, 0, 0⟩ : S48) [.int .i64 19, .int .i64 0, .int .i64 0] from (k48_mkM _ _ _ (⟨19, 0, 0⟩ : S48) )) (Reps.c3 (show Kd.M k48 _ _ _ (⟨105, 5, 0⟩ : S48) [.int .i64 105, .int .i64 5, .int .i64 0] from (k48_mkM _ _ _ (⟨105, 5, 0⟩ : S48) )) (Reps.none _ _)))); intro v201 w75 ho76 hb hg_ hnew_; clear hg_ hnew_; (first | rw [← Ny200.out] at ho76 | (simp only [Int.reduceToNat] at ho76; rw [← Ny200.out] at ho76)); have n0_ := Aside0.mk (Kd.R_elder' (by (with_reducible repeat (first | apply Kd.R_alloc | apply Kd.R_drewN | apply Kd.R_drew)); exact HO_166000.out) (Kd.R_base ho76) hb); have n1_ := Aside0.mk (Kd.R_elder' (by (with_reducible repeat (first | apply Kd.R_alloc | apply Kd.R_drewN | apply Kd.R_drew)); exact HO_176000.out) (Kd.R_base ho76) hb); have n2_ := Aside0.mk (Kd.R_elder' (by (with_reducible repeat (first | apply Kd.R_alloc | apply Kd.R_drewN | apply Kd.R_drew)); exact HO_182000.out) (Kd.R_base ho76) hb); have n3_ := Aside0.mk (Kd.R_elder' (by (with_reducible repeat (first | apply Kd.R_alloc | apply Kd.R_drewN | apply Kd.R_drew)); exact HO_195000.out) (Kd.R_base ho76) hb); have n4_ := Aside0.mk (Kd.R_lower (Kd.R_new' (Kd.R_new' (Kd.R_new' (Kd.R_new' ho76 (Kd.R_lt (by (with_reducible repeat (first | apply Kd.R_alloc | apply Kd.R_drewN | apply Kd.R_drew)); exact HO_166000.out))) (Kd.R_lt (by (with_reducible repeat (first | apply Kd.R_alloc | apply Kd.R_drewN | apply Kd.R_drew)); exact HO_176000.out))) (Kd.R_lt (by (with_reducible repeat (first | apply Kd.R_alloc | apply Kd.R_drewN | apply Kd.R_drew)); exact HO_182000.out))) (Kd.R_lt (by (with_reducible repeat (first | apply Kd.R_alloc | apply Kd.R_drewN | apply Kd.R_drew)); exact HO_195000.out))) (below_size (by repeat (first | (with_reducible first | exact HB.out | apply below_alloc | apply pw_below_drewN | apply below_drew1 | refine below_set ?_ GE165.out | refine below_set ?_ GE175.out | refine below_set ?_ GE181.out | refine below_set ?_ GE194.out) | exact HB.out)))); have n5_ := Aside0.mk (blk_below (g := gb165) (o := .cells #[.slice Ao14 t162.length co14] 24 (0, 0)) (by (with_reducible repeat (first | refine blk_drewN ?_ _ | refine blk_drew ?_ | refine blk_alloc ?_ _)); exact BK165.out) hb); have n6_ := Aside0.mk (blk_below (g := gb175) (o := .cells #[.slice Ao22 t170.length co22] 24 (0, 0)) (by (with_reducible repeat (first | refine blk_drewN ?_ _ | refine blk_drew ?_ | refine blk_alloc ?_ _)); exact BK175.out) hb); have n7_ := Aside0.mk (blk_below (g := gb181) (o := .cells #[.slice Ao28 t176.length co28] 24 (0, 0)) (by (with_reducible repeat (first | refine blk_drewN ?_ _ | refine blk_drew ?_ | refine blk_alloc ?_ _)); exact BK181.out) hb); have n8_ := Aside0.mk (blk_below (g := gb194) (o := .cells #[.slice Ao41 t190.length co41] 24 (0, 0)) (by (with_reducible repeat (first | refine blk_drewN ?_ _ | refine blk_drew ?_ | refine blk_alloc ?_ _)); exact BK194.out) hb); have n9_ := Aside0.mk (below_step (by repeat (first | (with_reducible first | exact HB.out | apply below_alloc | apply pw_below_drewN | apply below_drew1 | refine below_set ?_ GE165.out | refine below_set ?_ GE175.out | refine below_set ?_ GE181.out | refine below_set ?_ GE194.out) | exact HB.out)) hb); clear HO_166000; clear HO_176000; clear HO_182000; clear HO_195000; clear BK165; clear BK175; clear BK181; clear BK194; clear HB; have HO_166000 := n0_; have HO_176000 := n1_; have HO_182000 := n2_; have HO_195000 := n3_; have HO202 := n4_; have BK165 := n5_; have BK175 := n6_; have BK181 := n7_; have BK194 := n8_; have HB := n9_; clear n0_ n1_ n2_ n3_ n4_ n5_ n6_ n7_ n8_ n9_; clear hb ho76; obtain ⟨Ao77, co77, eo77⟩ := Kd.R_slice HO202.out; subst eo77) | (go_at_call 23; (with_reducible refine (snowlineref02_Same.calls kj10 _ _ t170 _ _ y200 true _ ?side1 ?side2 ?side3 ?side4 A66.out).mono ?_); (case side1 => repeat (first | exact (Kd.R_reads' HO_176000.out).2.2 | (with_reducible refine Kd.C_alloc ?_ _) | (with_reducible refine Kd.C_drewN ?_ _) | (with_reducible refine Kd.C_drew ?_))); (case side2 => exact (Kd.R_reads' HO_176000.out).2.1); (case side3 => repeat (first | exact (Kd.R_reads' HO202.out).2.2 | (with_reducible refine Kd.C_alloc ?_ _) | (with_reducible refine Kd.C_drewN ?_ _) | (with_reducible refine Kd.C_drew ?_))); (case side4 => exact (Kd.R_reads' HO202.out).2.1); rintro e w78 ⟨rfl, hb⟩; have n0_ := Aside0.mk (Kd.R_below (by (with_reducible repeat (first | apply Kd.R_alloc | apply Kd.R_drewN | apply Kd.R_drew)); exact HO_166000.out) hb); have n1_ := Aside0.mk (Kd.R_below (by (with_reducible repeat (first | apply Kd.R_alloc | apply Kd.R_drewN | apply Kd.R_drew)); exact HO_176000.out) hb); have n2_ := Aside0.mk (Kd.R_below (by (with_reducible repeat (first | apply Kd.R_alloc | apply Kd.R_drewN | apply Kd.R_drew)); exact HO_182000.out) hb); have n3_ := Aside0.mk (Kd.R_below (by (with_reducible repeat (first | apply Kd.R_alloc | apply Kd.R_drewN | apply Kd.R_drew)); exact HO_195000.out) hb); have n4_ := Aside0.mk (Kd.R_below (by (with_reducible repeat (first | apply Kd.R_alloc | apply Kd.R_drewN | apply Kd.R_drew)); exact HO202.out) hb); have n5_ := Aside0.mk (blk_below (g := gb165) (o := .cells #[.slice Ao14 t162.length co14] 24 (0, 0)) (by (with_reducible repeat (first | refine blk_drewN ?_ _ | refine blk_drew ?_ | refine blk_alloc ?_ _)); exact BK165.out) hb); have n6_ := Aside0.mk (blk_below (g := gb175) (o := .cells #[.slice Ao22 t170.length co22] 24 (0, 0)) (by (with_reducible repeat (first | refine blk_drewN ?_ _ | refine blk_drew ?_ | refine blk_alloc ?_ _)); exact BK175.out) hb); have n7_ := Aside0.mk (blk_below (g := gb181) (o := .cells #[.slice Ao28 t176.length co28] 24 (0, 0)) (by (with_reducible repeat (first | refine blk_drewN ?_ _ | refine blk_drew ?_ | refine blk_alloc ?_ _)); exact BK181.out) hb); have n8_ := Aside0.mk (blk_below (g := gb194) (o := .cells #[.slice Ao41 t190.length co41] 24 (0, 0)) (by (with_reducible repeat (first | refine blk_drewN ?_ _ | refine blk_drew ?_ | refine blk_alloc ?_ _)); exact BK194.out) hb); have n9_ := Aside0.mk (below_step (by repeat (first | (with_reducible first | exact HB.out | apply below_alloc | apply pw_below_drewN | apply below_drew1 | refine below_set ?_ GE165.out | refine below_set ?_ GE175.out | refine below_set ?_ GE181.out | refine below_set ?_ GE194.out) | exact HB.out)) hb); clear HO_166000; clear HO_176000; clear HO_182000; clear HO_195000; clear HO202; clear BK165; clear BK175; clear BK181; clear BK194; clear HB; have HO_166000 := n0_; have HO_176000 := n1_; have HO_182000 := n2_; have HO_195000 := n3_; have HO202 := n4_; have BK165 := n5_; have BK175 := n6_; have BK181 := n7_; have BK194 := n8_; have HB := n9_; clear n0_ n1_ n2_ n3_ n4_ n5_ n6_ n7_ n8_ n9_; (try clear hb); (try clear hb2); (try clear hk); (try clear hi); have hnb79 := NB181_165.out; have hnc79 := NB165_181.out; have hnb80 := NB181_194.out; have hnc80 := NB194_181.out; have hcz81_0 : w78.cell? ⟨gb181, 0, none⟩ = some (.slice Ao28 t176.length co28) := (blk_cell BK181.out 0).trans rfl; have hfz81_0 := blk_frozen BK181.out 0) | ((with_reducible refine gate_dst (N := 154) rfl ?_); (try (refine gate_guard (by rfl) ?_; dsimp only)); refine Kd.R_lit k48 _ 48 ?hg (N := 154) ?hd (xs := ([(⟨92, 0, 3⟩ : S48)] : List (S48))) (inner := [.int .i64 92, .int .i64 0, .int .i64 3]) (ok := fun _ => True) (okp := fun _ => True) ?hr ?hp (fun _ hk => hk) trivial (Below.refl _ _) (Nat.le_refl _) (by simp) ?_; (case hd => rfl); (case hg => rfl); (case hr => first | (go_simp; done) | (go_simp; rfl)); (case hp => exact (Reps.c3 (show Kd.M k48 _ _ _ (⟨92, 0, 3⟩ : S48) [.int .i64 92, .int .i64 0, .int .i64 3] from (k48_mkM _ _ _ (⟨92, 0, 3⟩ : S48) )) (Reps.none _ _))); intro v205 w82 ho83 hb hg_ hnew_; clear hg_ hnew_; (first | rw [← Ny204.out] at ho83 | (simp only [Int.reduceToNat] at ho83; rw [← Ny204.out] at ho83)); have n0_ := Aside0.mk (Kd.R_elder' (by (with_reducible repeat (first | apply Kd.R_alloc | apply Kd.R_drewN | apply Kd.R_drew)); exact HO_166000.out) (Kd.R_base ho83) hb); have n1_ := Aside0.mk (Kd.R_elder' (by (with_reducible repeat (first | apply Kd.R_alloc | apply Kd.R_drewN | apply Kd.R_drew)); exact HO_176000.out) (Kd.R_base ho83) hb); have n2_ := Aside0.mk (Kd.R_elder' (by (with_reducible repeat (first | apply Kd.R_alloc | apply Kd.R_drewN | apply Kd.R_drew)); exact HO_182000.out) (Kd.R_base ho83) hb); have n3_ := Aside0.mk (Kd.R_elder' (by (with_reducible repeat (first | apply Kd.R_alloc | apply Kd.R_drewN | apply Kd.R_drew)); exact HO_195000.out) (Kd.R_base ho83) hb); have n4_ := Aside0.mk (Kd.R_elder' (by (with_reducible repeat (first | apply Kd.R_alloc | apply Kd.R_drewN | apply Kd.R_drew)); exact HO202.out) (Kd.R_base ho83) hb); have n5_ := Aside0.mk (Kd.R_lower (Kd.R_new' (Kd.R_new' (Kd.R_new' (Kd.R_new' (Kd.R_new' ho83 (Kd.R_lt (by (with_reducible repeat (first | apply Kd.R_alloc | apply Kd.R_drewN | apply Kd.R_drew)); exact HO_166000.out))) (Kd.R_lt (by (with_reducible repeat (first | apply Kd.R_alloc | apply Kd.R_drewN | apply Kd.R_drew)); exact HO_176000.out))) (Kd.R_lt (by (with_reducible repeat (first | apply Kd.R_alloc | apply Kd.R_drewN | apply Kd.R_drew)); exact HO_182000.out))) (Kd.R_lt (by (with_reducible repeat (first | apply Kd.R_alloc | apply Kd.R_drewN | apply Kd.R_drew)); exact HO_195000.out))) (Kd.R_lt (by (with_reducible repeat (first | apply Kd.R_alloc | apply Kd.R_drewN | apply Kd.R_drew)); exact HO202.out))) (below_size (by repeat (first | (with_reducible first | exact HB.out | apply below_alloc | apply pw_below_drewN | apply below_drew1 | refine below_set ?_ GE165.out | refine below_set ?_ GE175.out | refine below_set ?_ GE181.out | refine below_set ?_ GE194.out) | exact HB.out)))); have n6_ := Aside0.mk (blk_below (g := gb165) (o := .cells #[.slice Ao14 t162.length co14] 24 (0, 0)) (by (with_reducible repeat (first | refine blk_drewN ?_ _ | refine blk_drew ?_ | refine blk_alloc ?_ _)); exact BK165.out) hb); have n7_ := Aside0.mk (blk_below (g := gb175) (o := .cells #[.slice Ao22 t170.length co22] 24 (0, 0)) (by (with_reducible repeat (first | refine blk_drewN ?_ _ | refine blk_drew ?_ | refine blk_alloc ?_ _)); exact BK175.out) hb); have n8_ := Aside0.mk (blk_below (g := gb181) (o := .cells #[.slice Ao28 t176.length co28] 24 (0, 0)) (by (with_reducible repeat (first | refine blk_drewN ?_ _ | refine blk_drew ?_ | refine blk_alloc ?_ _)); exact BK181.out) hb); have n9_ := Aside0.mk (blk_below (g := gb194) (o := .cells #[.slice Ao41 t190.length co41] 24 (0, 0)) (by (with_reducible repeat (first | refine blk_drewN ?_ _ | refine blk_drew ?_ | refine blk_alloc ?_ _)); exact BK194.out) hb); have n10_ := Aside0.mk (below_step (by repeat (first | (with_reducible first | exact HB.out | apply below_alloc | apply pw_below_drewN | apply below_drew1 | refine below_set ?_ GE165.out | refine below_set ?_ GE175.out | refine below_set ?_ GE181.out | refine below_set ?_ GE194.out) | exact HB.out)) hb); clear HO_166000; clear HO_176000; clear HO_182000; clear HO_195000; clear HO202; clear BK165; clear BK175; clear BK181; clear BK194; clear HB; have HO_166000 := n0_; have HO_176000 := n1_; have HO_182000 := n2_; have HO_195000 := n3_; have HO202 := n4_; have HO206 := n5_; have BK165 := n6_; have BK175 := n7_; have BK181 := n8_; have BK194 := n9_; have HB := n10_; clear n0_ n1_ n2_ n3_ n4_ n5_ n6_ n7_ n8_ n9_ n10_; clear hb ho83; obtain ⟨Ao84, co84, eo84⟩ := Kd.R_slice HO206.out; subst eo84) | (go_at_call 23; (with_reducible refine (snowlineref02_Same.calls kj10 _ _ t176 _ _ y204 true _ ?side1 ?side2 ?side3 ?side4 A68.out).mono ?_); (case side1 => repeat (first | exact (Kd.R_reads' HO_182000.out).2.2 | (with_reducible refine Kd.C_alloc ?_ _) | (with_reducible refine Kd.C_drewN ?_ _) | (with_reducible refine Kd.C_drew ?_))); (case side2 => exact (Kd.R_reads' HO_182000.out).2.1); (case side3 => repeat (first | exact (Kd.R_reads' HO206.out).2.2 | (with_reducible refine Kd.C_alloc ?_ _) | (with_reducible refine Kd.C_drewN ?_ _) | (with_reducible refine Kd.C_drew ?_))); (case side4 => exact (Kd.R_reads' HO206.out).2.1); rintro e w85 ⟨rfl, hb⟩; have n0_ := Aside0.mk (Kd.R_below (by (with_reducible repeat (first | apply Kd.R_alloc | apply Kd.R_drewN | apply Kd.R_drew)); exact HO_166000.out) hb); have n1_ := Aside0.mk (Kd.R_below (by (with_reducible repeat (first | apply Kd.R_alloc | apply Kd.R_drewN | apply Kd.R_drew)); exact HO_176000.out) hb); have n2_ := Aside0.mk (Kd.R_below (by (with_reducible repeat (first | apply Kd.R_alloc | apply Kd.R_drewN | apply Kd.R_drew)); exact HO_182000.out) hb); have n3_ := Aside0.mk (Kd.R_below (by (with_reducible repeat (first | apply Kd.R_alloc | apply Kd.R_drewN | apply Kd.R_drew)); exact HO_195000.out) hb); have n4_ := Aside0.mk (Kd.R_below (by (with_reducible repeat (first | apply Kd.R_alloc | apply Kd.R_drewN | apply Kd.R_drew)); exact HO202.out) hb); have n5_ := Aside0.mk (Kd.R_below (by (with_reducible repeat (first | apply Kd.R_alloc | apply Kd.R_drewN | apply Kd.R_drew)); exact HO206.out) hb); have n6_ := Aside0.mk (blk_below (g := gb165) (o := .cells #[.slice Ao14 t162.length co14] 24 (0, 0)) (by (with_reducible repeat (first | refine blk_drewN ?_ _ | refine blk_drew ?_ | refine blk_alloc ?_ _)); exact BK165.out) hb); have n7_ := Aside0.mk (blk_below (g := gb175) (o := .cells #[.slice Ao22 t170.length co22] 24 (0, 0)) (by (with_reducible repeat (first | refine blk_drewN ?_ _ | refine blk_drew ?_ | refine blk_alloc ?_ _)); exact BK175.out) hb); have n8_ := Aside0.mk (blk_below (g := gb181) (o := .cells #[.slice Ao28 t176.length co28] 24 (0, 0)) (by (with_reducible repeat (first | refine blk_drewN ?_ _ | refine blk_drew ?_ | refine blk_alloc ?_ _)); exact BK181.out) hb); have n9_ := Aside0.mk (blk_below (g := gb194) (o := .cells #[.slice Ao41 t190.length co41] 24 (0, 0)) (by (with_reducible repeat (first | refine blk_drewN ?_ _ | refine blk_drew ?_ | refine blk_alloc ?_ _)); exact BK194.out) hb); have n10_ := Aside0.mk (below_step (by repeat (first | (with_reducible first | exact HB.out | apply below_alloc | apply pw_below_drewN | apply below_drew1 | refine below_set ?_ GE165.out | refine below_set ?_ GE175.out | refine below_set ?_ GE181.out | refine below_set ?_ GE194.out) | exact HB.out)) hb); clear HO_166000; clear HO_176000; clear HO_182000; clear HO_195000; clear HO202; clear HO206; clear BK165; clear BK175; clear BK181; clear BK194; clear HB; have HO_166000 := n0_; have HO_176000 := n1_; have HO_182000 := n2_; have HO_195000 := n3_; have HO202 := n4_; have HO206 := n5_; have BK165 := n6_; have BK175 := n7_; have BK181 := n8_; have BK194 := n9_; have HB := n10_; clear n0_ n1_ n2_ n3_ n4_ n5_ n6_ n7_ n8_ n9_ n10_; (try clear hb); (try clear hb2); (try clear hk); (try clear hi); have hnb86 := NB194_165.out; have hnc86 := NB165_194.out; have hcz87_0 : w85.cell? ⟨gb194, 0, none⟩ = some (.slice Ao41 t190.length co41) := (blk_cell BK194.out 0).trans rfl; have hfz87_0 := blk_frozen BK194.out 0) | ((with_reducible refine gate_dst (N := 161) rfl ?_); (try (refine gate_guard (by rfl) ?_; dsimp only)); refine Kd.R_lit k48 _ 48 ?hg (N := 161) ?hd (xs := ([(⟨142, 0, 3⟩ : S48)] : List (S48))) (inner := [.int .i64 142, .int .i64 0, .int .i64 3]) (ok := fun _ => True) (okp := fun _ => True) ?hr ?hp (fun _ hk => hk) trivial (Below.refl _ _) (Nat.le_refl _) (by simp) ?_; (case hd => rfl); (case hg => rfl); (case hr => first | (go_simp; done) | (go_simp; rfl)); (case hp => exact (Reps.c3 (show Kd.M k48 _ _ _ (⟨142, 0, 3⟩ : S48) [.int .i64 142, .int .i64 0, .int .i64 3] from (k48_mkM _ _ _ (⟨142, 0, 3⟩ : S48) )) (Reps.none _ _))); intro v209 w88 ho89 hb hg_ hnew_; clear hg_ hnew_; (first | rw [← Ny208.out] at ho89 | (simp only [Int.reduceToNat] at ho89; rw [← Ny208.out] at ho89)); have n0_ := Aside0.mk (Kd.R_elder' (by (with_reducible repeat (first | apply Kd.R_alloc | apply Kd.R_drewN | apply Kd.R_drew)); exact HO_166000.out) (Kd.R_base ho89) hb); have n1_ := Aside0.mk (Kd.R_elder' (by (with_reducible repeat (first | apply Kd.R_alloc | apply Kd.R_drewN | apply Kd.R_drew)); exact HO_176000.out) (Kd.R_base ho89) hb); have n2_ := Aside0.mk (Kd.R_elder' (by (with_reducible repeat (first | apply Kd.R_alloc | apply Kd.R_drewN | apply Kd.R_drew)); exact HO_182000.out) (Kd.R_base ho89) hb); have n3_ := Aside0.mk (Kd.R_elder' (by (with_reducible repeat (first | apply Kd.R_alloc | apply Kd.R_drewN | apply Kd.R_drew)); exact HO_195000.out) (Kd.R_base ho89) hb); have n4_ := Aside0.mk (Kd.R_elder' (by (with_reducible repeat (first | apply Kd.R_alloc | apply Kd.R_drewN | apply Kd.R_drew)); exact HO202.out) (Kd.R_base ho89) hb); have n5_ := Aside0.mk (Kd.R_elder' (by (with_reducible repeat (first | apply Kd.R_alloc | apply Kd.R_drewN | apply Kd.R_drew)); exact HO206.out) (Kd.R_base ho89) hb); have n6_ := Aside0.mk (Kd.R_lower (Kd.R_new' (Kd.R_new' (Kd.R_new' (Kd.R_new' (Kd.R_new' (Kd.R_new' ho89 (Kd.R_lt (by (with_reducible repeat (first | apply Kd.R_alloc | apply Kd.R_drewN | apply Kd.R_drew)); exact HO_166000.out))) (Kd.R_lt (by (with_reducible repeat (first | apply Kd.R_alloc | apply Kd.R_drewN | apply Kd.R_drew)); exact HO_176000.out))) (Kd.R_lt (by (with_reducible repeat (first | apply Kd.R_alloc | apply Kd.R_drewN | apply Kd.R_drew)); exact HO_182000.out))) (Kd.R_lt (by (with_reducible repeat (first | apply Kd.R_alloc | apply Kd.R_drewN | apply Kd.R_drew)); exact HO_195000.out))) (Kd.R_lt (by (with_reducible repeat (first | apply Kd.R_alloc | apply Kd.R_drewN | apply Kd.R_drew)); exact HO202.out))) (Kd.R_lt (by (with_reducible repeat (first | apply Kd.R_alloc | apply Kd.R_drewN | apply Kd.R_drew)); exact HO206.out))) (below_size (by repeat (first | (with_reducible first | exact HB.out | apply below_alloc | apply pw_below_drewN | apply below_drew1 | refine below_set ?_ GE165.out | refine below_set ?_ GE175.out | refine below_set ?_ GE181.out | refine below_set ?_ GE194.out) | exact HB.out)))); have n7_ := Aside0.mk (blk_below (g := gb165) (o := .cells #[.slice Ao14 t162.length co14] 24 (0, 0)) (by (with_reducible repeat (first | refine blk_drewN ?_ _ | refine blk_drew ?_ | refine blk_alloc ?_ _)); exact BK165.out) hb); have n8_ := Aside0.mk (blk_below (g := gb175) (o := .cells #[.slice Ao22 t170.length co22] 24 (0, 0)) (by (with_reducible repeat (first | refine blk_drewN ?_ _ | refine blk_drew ?_ | refine blk_alloc ?_ _)); exact BK175.out) hb); have n9_ := Aside0.mk (blk_below (g := gb181) (o := .cells #[.slice Ao28 t176.length co28] 24 (0, 0)) (by (with_reducible repeat (first | refine blk_drewN ?_ _ | refine blk_drew ?_ | refine blk_alloc ?_ _)); exact BK181.out) hb); have n10_ := Aside0.mk (blk_below (g := gb194) (o := .cells #[.slice Ao41 t190.length co41] 24 (0, 0)) (by (with_reducible repeat (first | refine blk_drewN ?_ _ | refine blk_drew ?_ | refine blk_alloc ?_ _)); exact BK194.out) hb); have n11_ := Aside0.mk (below_step (by repeat (first | (with_reducible first | exact HB.out | apply below_alloc | apply pw_below_drewN | apply below_drew1 | refine below_set ?_ GE165.out | refine below_set ?_ GE175.out | refine below_set ?_ GE181.out | refine below_set ?_ GE194.out) | exact HB.out)) hb); clear HO_166000; clear HO_176000; clear HO_182000; clear HO_195000; clear HO202; clear HO206; clear BK165; clear BK175; clear BK181; clear BK194; clear HB; have HO_166000 := n0_; have HO_176000 := n1_; have HO_182000 := n2_; have HO_195000 := n3_; have HO202 := n4_; have HO206 := n5_; have HO210 := n6_; have BK165 := n7_; have BK175 := n8_; have BK181 := n9_; have BK194 := n10_; have HB := n11_; clear n0_ n1_ n2_ n3_ n4_ n5_ n6_ n7_ n8_ n9_ n10_ n11_; clear hb ho89; obtain ⟨Ao90, co90, eo90⟩ := Kd.R_slice HO210.out; subst eo90) | (go_at_call 23; (with_reducible refine (snowlineref02_Same.calls kj10 _ _ t190 _ _ y208 t211 _ ?side1 ?side2 ?side3 ?side4 A70.out).mono ?_); (case side1 => repeat (first | exact (Kd.R_reads' HO_195000.out).2.2 | (with_reducible refine Kd.C_alloc ?_ _) | (with_reducible refine Kd.C_drewN ?_ _) | (with_reducible refine Kd.C_drew ?_))); (case side2 => exact (Kd.R_reads' HO_195000.out).2.1); (case side3 => repeat (first | exact (Kd.R_reads' HO210.out).2.2 | (with_reducible refine Kd.C_alloc ?_ _) | (with_reducible refine Kd.C_drewN ?_ _) | (with_reducible refine Kd.C_drew ?_))); (case side4 => exact (Kd.R_reads' HO210.out).2.1); rintro e w91 ⟨rfl, hb⟩; have n0_ := Aside0.mk (Kd.R_below (by (with_reducible repeat (first | apply Kd.R_alloc | apply Kd.R_drewN | apply Kd.R_drew)); exact HO_166000.out) hb); have n1_ := Aside0.mk (Kd.R_below (by (with_reducible repeat (first | apply Kd.R_alloc | apply Kd.R_drewN | apply Kd.R_drew)); exact HO_176000.out) hb); have n2_ := Aside0.mk (Kd.R_below (by (with_reducible repeat (first | apply Kd.R_alloc | apply Kd.R_drewN | apply Kd.R_drew)); exact HO_182000.out) hb); have n3_ := Aside0.mk (Kd.R_below (by (with_reducible repeat (first | apply Kd.R_alloc | apply Kd.R_drewN | apply Kd.R_drew)); exact HO_195000.out) hb); have n4_ := Aside0.mk (Kd.R_below (by (with_reducible repeat (first | apply Kd.R_alloc | apply Kd.R_drewN | apply Kd.R_drew)); exact HO202.out) hb); have n5_ := Aside0.mk (Kd.R_below (by (with_reducible repeat (first | apply Kd.R_alloc | apply Kd.R_drewN | apply Kd.R_drew)); exact HO206.out) hb); have n6_ := Aside0.mk (Kd.R_below (by (with_reducible repeat (first | apply Kd.R_alloc | apply Kd.R_drewN | apply Kd.R_drew)); exact HO210.out) hb); have n7_ := Aside0.mk (blk_below (g := gb165) (o := .cells #[.slice Ao14 t162.length co14] 24 (0, 0)) (by (with_reducible repeat (first | refine blk_drewN ?_ _ | refine blk_drew ?_ | refine blk_alloc ?_ _)); exact BK165.out) hb); have n8_ := Aside0.mk (blk_below (g := gb175) (o := .cells #[.slice Ao22 t170.length co22] 24 (0, 0)) (by (with_reducible repeat (first | refine blk_drewN ?_ _ | refine blk_drew ?_ | refine blk_alloc ?_ _)); exact BK175.out) hb); have n9_ := Aside0.mk (blk_below (g := gb181) (o := .cells #[.slice Ao28 t176.length co28] 24 (0, 0)) (by (with_reducible repeat (first | refine blk_drewN ?_ _ | refine blk_drew ?_ | refine blk_alloc ?_ _)); exact BK181.out) hb); have n10_ := Aside0.mk (blk_below (g := gb194) (o := .cells #[.slice Ao41 t190.length co41] 24 (0, 0)) (by (with_reducible repeat (first | refine blk_drewN ?_ _ | refine blk_drew ?_ | refine blk_alloc ?_ _)); exact BK194.out) hb); have n11_ := Aside0.mk (below_step (by repeat (first | (with_reducible first | exact HB.out | apply below_alloc | apply pw_below_drewN | apply below_drew1 | refine below_set ?_ GE165.out | refine below_set ?_ GE175.out | refine below_set ?_ GE181.out | refine below_set ?_ GE194.out) | exact HB.out)) hb); clear HO_166000; clear HO_176000; clear HO_182000; clear HO_195000; clear HO202; clear HO206; clear HO210; clear BK165; clear BK175; clear BK181; clear BK194; clear HB; have HO_166000 := n0_; have HO_176000 := n1_; have HO_182000 := n2_; have HO_195000 := n3_; have HO202 := n4_; have HO206 := n5_; have HO210 := n6_; have BK165 := n7_; have BK175 := n8_; have BK181 := n9_; have BK194 := n10_; have HB := n11_; clear n0_ n1_ n2_ n3_ n4_ n5_ n6_ n7_ n8_ n9_ n10_ n11_; (try clear hb); (try clear hb2); (try clear hk); (try clear hi)))
                            go_ret
                            exact ⟨by first | rfl | (simp [errW_none, errW_some] <;> rfl) | (simp [*, errW_none, errW_some] <;> rfl), by repeat (first | (with_reducible first | exact HB.out | apply below_alloc | apply pw_below_drewN | apply below_drew1 | refine below_set ?_ GE165.out | refine below_set ?_ GE175.out | refine below_set ?_ GE181.out | refine below_set ?_ GE194.out) | exact HB.out)⟩
                          · replace c69 := Bool.eq_false_iff.mpr c69
                            subst c69
                            have H1 : (some false) = some r := by rw [if_neg (show ¬ (false = true) by decide)] at H; exact H
                            clear H
                            have H := H1
                            clear H1
                            obtain rfl := Option.some.inj H
                            have hnb92 := NB175_165.out
                            have hnc92 := NB165_175.out
                            have hnb93 := NB175_181.out
                            have hnc93 := NB181_175.out
                            have hnb94 := NB175_194.out
                            have hnc94 := NB194_175.out
                            have hcz95_0 : wc.cell? ⟨gb175, 0, none⟩ = some (.slice Ao22 t170.length co22) := (blk_cell BK175.out 0).trans rfl
                            have hfz95_0 := blk_frozen BK175.out 0
                            go_wp2_with (first | ((with_reducible refine gate_dst (N := 147) rfl ?_); (try (refine gate_guard (by rfl) ?_; dsimp only)); refine Kd.R_lit k48 _ 48 ?hg (N := 147) ?hd (xs := ([(⟨19, 0, 0⟩ : S48), (⟨105, 5, 0⟩ : S48)] : List (S48))) (inner := [.int .i64 19, .int .i64 0, .int .i64 0, .int .i64 105, .int .i64 5, .int .i64 0]) (ok := fun _ => True) (okp := fun _ => True) ?hr ?hp (fun _ hk => hk) trivial (Below.refl _ _) (Nat.le_refl _) (by simp) ?_; (case hd => rfl); (case hg => rfl); (case hr => first | (go_simp; done) | (go_simp; rfl)); (case hp => exact (Reps.c3 (show Kd.M k48 _ _ _ (⟨19, 0, 0⟩ : S48) [.int .i64 19, .int .i64 0, .int .i64 0] from (k48_mkM _ _ _ (⟨19, 0, 0⟩ : S48) )) (Reps.c3 (show Kd.M k48 _ _ _ (⟨105, 5, 0⟩ : S48) [.int .i64 105, .int .i64 5, .int .i64 0] from (k48_mkM _ _ _ (⟨105, 5, 0⟩ : S48) )) (Reps.none _ _)))); intro v201 w96 ho97 hb hg_ hnew_; clear hg_ hnew_; (first | rw [← Ny200.out] at ho97 | (simp only [Int.reduceToNat] at ho97; rw [← Ny200.out] at ho97)); have n0_ := Aside0.mk (Kd.R_elder' (by (with_reducible repeat (first | apply Kd.R_alloc | apply Kd.R_drewN | apply Kd.R_drew)); exact HO_166000.out) (Kd.R_base ho97) hb); have n1_ := Aside0.mk (Kd.R_elder' (by (with_reducible repeat (first | apply Kd.R_alloc | apply Kd.R_drewN | apply Kd.R_drew)); exact HO_176000.out) (Kd.R_base ho97) hb); have n2_ := Aside0.mk (Kd.R_elder' (by (with_reducible repeat (first | apply Kd.R_alloc | apply Kd.R_drewN | apply Kd.R_drew)); exact HO_182000.out) (Kd.R_base ho97) hb); have n3_ := Aside0.mk (Kd.R_elder' (by (with_reducible repeat (first | apply Kd.R_alloc | apply Kd.R_drewN | apply Kd.R_drew)); exact HO_195000.out) (Kd.R_base ho97) hb); have n4_ := Aside0.mk (Kd.R_lower (Kd.R_new' (Kd.R_new' (Kd.R_new' (Kd.R_new' ho97 (Kd.R_lt (by (with_reducible repeat (first | apply Kd.R_alloc | apply Kd.R_drewN | apply Kd.R_drew)); exact HO_166000.out))) (Kd.R_lt (by (with_reducible repeat (first | apply Kd.R_alloc | apply Kd.R_drewN | apply Kd.R_drew)); exact HO_176000.out))) (Kd.R_lt (by (with_reducible repeat (first | apply Kd.R_alloc | apply Kd.R_drewN | apply Kd.R_drew)); exact HO_182000.out))) (Kd.R_lt (by (with_reducible repeat (first | apply Kd.R_alloc | apply Kd.R_drewN | apply Kd.R_drew)); exact HO_195000.out))) (below_size (by repeat (first | (with_reducible first | exact HB.out | apply below_alloc | apply pw_below_drewN | apply below_drew1 | refine below_set ?_ GE165.out | refine below_set ?_ GE175.out | refine below_set ?_ GE181.out | refine below_set ?_ GE194.out) | exact HB.out)))); have n5_ := Aside0.mk (blk_below (g := gb165) (o := .cells #[.slice Ao14 t162.length co14] 24 (0, 0)) (by (with_reducible repeat (first | refine blk_drewN ?_ _ | refine blk_drew ?_ | refine blk_alloc ?_ _)); exact BK165.out) hb); have n6_ := Aside0.mk (blk_below (g := gb175) (o := .cells #[.slice Ao22 t170.length co22] 24 (0, 0)) (by (with_reducible repeat (first | refine blk_drewN ?_ _ | refine blk_drew ?_ | refine blk_alloc ?_ _)); exact BK175.out) hb); have n7_ := Aside0.mk (blk_below (g := gb181) (o := .cells #[.slice Ao28 t176.length co28] 24 (0, 0)) (by (with_reducible repeat (first | refine blk_drewN ?_ _ | refine blk_drew ?_ | refine blk_alloc ?_ _)); exact BK181.out) hb); have n8_ := Aside0.mk (blk_below (g := gb194) (o := .cells #[.slice Ao41 t190.length co41] 24 (0, 0)) (by (with_reducible repeat (first | refine blk_drewN ?_ _ | refine blk_drew ?_ | refine blk_alloc ?_ _)); exact BK194.out) hb); have n9_ := Aside0.mk (below_step (by repeat (first | (with_reducible first | exact HB.out | apply below_alloc | apply pw_below_drewN | apply below_drew1 | refine below_set ?_ GE165.out | refine below_set ?_ GE175.out | refine below_set ?_ GE181.out | refine below_set ?_ GE194.out) | exact HB.out)) hb); clear HO_166000; clear HO_176000; clear HO_182000; clear HO_195000; clear BK165; clear BK175; clear BK181; clear BK194; clear HB; have HO_166000 := n0_; have HO_176000 := n1_; have HO_182000 := n2_; have HO_195000 := n3_; have HO202 := n4_; have BK165 := n5_; have BK175 := n6_; have BK181 := n7_; have BK194 := n8_; have HB := n9_; clear n0_ n1_ n2_ n3_ n4_ n5_ n6_ n7_ n8_ n9_; clear hb ho97; obtain ⟨Ao98, co98, eo98⟩ := Kd.R_slice HO202.out; subst eo98) | (go_at_call 23; (with_reducible refine (snowlineref02_Same.calls kj10 _ _ t170 _ _ y200 true _ ?side1 ?side2 ?side3 ?side4 A66.out).mono ?_); (case side1 => repeat (first | exact (Kd.R_reads' HO_176000.out).2.2 | (with_reducible refine Kd.C_alloc ?_ _) | (with_reducible refine Kd.C_drewN ?_ _) | (with_reducible refine Kd.C_drew ?_))); (case side2 => exact (Kd.R_reads' HO_176000.out).2.1); (case side3 => repeat (first | exact (Kd.R_reads' HO202.out).2.2 | (with_reducible refine Kd.C_alloc ?_ _) | (with_reducible refine Kd.C_drewN ?_ _) | (with_reducible refine Kd.C_drew ?_))); (case side4 => exact (Kd.R_reads' HO202.out).2.1); rintro e w99 ⟨rfl, hb⟩; have n0_ := Aside0.mk (Kd.R_below (by (with_reducible repeat (first | apply Kd.R_alloc | apply Kd.R_drewN | apply Kd.R_drew)); exact HO_166000.out) hb); have n1_ := Aside0.mk (Kd.R_below (by (with_reducible repeat (first | apply Kd.R_alloc | apply Kd.R_drewN | apply Kd.R_drew)); exact HO_176000.out) hb); have n2_ := Aside0.mk (Kd.R_below (by (with_reducible repeat (first | apply Kd.R_alloc | apply Kd.R_drewN | apply Kd.R_drew)); exact HO_182000.out) hb); have n3_ := Aside0.mk (Kd.R_below (by (with_reducible repeat (first | apply Kd.R_alloc | apply Kd.R_drewN | apply Kd.R_drew)); exact HO_195000.out) hb); have n4_ := Aside0.mk (Kd.R_below (by (with_reducible repeat (first | apply Kd.R_alloc | apply Kd.R_drewN | apply Kd.R_drew)); exact HO202.out) hb); have n5_ := Aside0.mk (blk_below (g := gb165) (o := .cells #[.slice Ao14 t162.length co14] 24 (0, 0)) (by (with_reducible repeat (first | refine blk_drewN ?_ _ | refine blk_drew ?_ | refine blk_alloc ?_ _)); exact BK165.out) hb); have n6_ := Aside0.mk (blk_below (g := gb175) (o := .cells #[.slice Ao22 t170.length co22] 24 (0, 0)) (by (with_reducible repeat (first | refine blk_drewN ?_ _ | refine blk_drew ?_ | refine blk_alloc ?_ _)); exact BK175.out) hb); have n7_ := Aside0.mk (blk_below (g := gb181) (o := .cells #[.slice Ao28 t176.length co28] 24 (0, 0)) (by (with_reducible repeat (first | refine blk_drewN ?_ _ | refine blk_drew ?_ | refine blk_alloc ?_ _)); exact BK181.out) hb); have n8_ := Aside0.mk (blk_below (g := gb194) (o := .cells #[.slice Ao41 t190.length co41] 24 (0, 0)) (by (with_reducible repeat (first | refine blk_drewN ?_ _ | refine blk_drew ?_ | refine blk_alloc ?_ _)); exact BK194.out) hb); have n9_ := Aside0.mk (below_step (by repeat (first | (with_reducible first | exact HB.out | apply below_alloc | apply pw_below_drewN | apply below_drew1 | refine below_set ?_ GE165.out | refine below_set ?_ GE175.out | refine below_set ?_ GE181.out | refine below_set ?_ GE194.out) | exact HB.out)) hb); clear HO_166000; clear HO_176000; clear HO_182000; clear HO_195000; clear HO202; clear BK165; clear BK175; clear BK181; clear BK194; clear HB; have HO_166000 := n0_; have HO_176000 := n1_; have HO_182000 := n2_; have HO_195000 := n3_; have HO202 := n4_; have BK165 := n5_; have BK175 := n6_; have BK181 := n7_; have BK194 := n8_; have HB := n9_; clear n0_ n1_ n2_ n3_ n4_ n5_ n6_ n7_ n8_ n9_; (try clear hb); (try clear hb2); (try clear hk); (try clear hi); have hnb100 := NB181_165.out; have hnc100 := NB165_181.out; have hnb101 := NB181_194.out; have hnc101 := NB194_181.out; have hcz102_0 : w99.cell? ⟨gb181, 0, none⟩ = some (.slice Ao28 t176.length co28) := (blk_cell BK181.out 0).trans rfl; have hfz102_0 := blk_frozen BK181.out 0) | ((with_reducible refine gate_dst (N := 154) rfl ?_); (try (refine gate_guard (by rfl) ?_; dsimp only)); refine Kd.R_lit k48 _ 48 ?hg (N := 154) ?hd (xs := ([(⟨92, 0, 3⟩ : S48)] : List (S48))) (inner := [.int .i64 92, .int .i64 0, .int .i64 3]) (ok := fun _ => True) (okp := fun _ => True) ?hr ?hp (fun _ hk => hk) trivial (Below.refl _ _) (Nat.le_refl _) (by simp) ?_; (case hd => rfl); (case hg => rfl); (case hr => first | (go_simp; done) | (go_simp; rfl)); (case hp => exact (Reps.c3 (show Kd.M k48 _ _ _ (⟨92, 0, 3⟩ : S48) [.int .i64 92, .int .i64 0, .int .i64 3] from (k48_mkM _ _ _ (⟨92, 0, 3⟩ : S48) )) (Reps.none _ _))); intro v205 w103 ho104 hb hg_ hnew_; clear hg_ hnew_; (first | rw [← Ny204.out] at ho104 | (simp only [Int.reduceToNat] at ho104; rw [← Ny204.out] at ho104)); have n0_ := Aside0.mk (Kd.R_elder' (by (with_reducible repeat (first | apply Kd.R_alloc | apply Kd.R_drewN | apply Kd.R_drew)); exact HO_166000.out) (Kd.R_base ho104) hb); have n1_ := Aside0.mk (Kd.R_elder' (by (with_reducible repeat (first | apply Kd.R_alloc | apply Kd.R_drewN | apply Kd.R_drew)); exact HO_176000.out) (Kd.R_base ho104) hb); have n2_ := Aside0.mk (Kd.R_elder' (by (with_reducible repeat (first | apply Kd.R_alloc | apply Kd.R_drewN | apply Kd.R_drew)); exact HO_182000.out) (Kd.R_base ho104) hb); have n3_ := Aside0.mk (Kd.R_elder' (by (with_reducible repeat (first | apply Kd.R_alloc | apply Kd.R_drewN | apply Kd.R_drew)); exact HO_195000.out) (Kd.R_base ho104) hb); have n4_ := Aside0.mk (Kd.R_elder' (by (with_reducible repeat (first | apply Kd.R_alloc | apply Kd.R_drewN | apply Kd.R_drew)); exact HO202.out) (Kd.R_base ho104) hb); have n5_ := Aside0.mk (Kd.R_lower (Kd.R_new' (Kd.R_new' (Kd.R_new' (Kd.R_new' (Kd.R_new' ho104 (Kd.R_lt (by (with_reducible repeat (first | apply Kd.R_alloc | apply Kd.R_drewN | apply Kd.R_drew)); exact HO_166000.out))) (Kd.R_lt (by (with_reducible repeat (first | apply Kd.R_alloc | apply Kd.R_drewN | apply Kd.R_drew)); exact HO_176000.out))) (Kd.R_lt (by (with_reducible repeat (first | apply Kd.R_alloc | apply Kd.R_drewN | apply Kd.R_drew)); exact HO_182000.out))) (Kd.R_lt (by (with_reducible repeat (first | apply Kd.R_alloc | apply Kd.R_drewN | apply Kd.R_drew)); exact HO_195000.out))) (Kd.R_lt (by (with_reducible repeat (first | apply Kd.R_alloc | apply Kd.R_drewN | apply Kd.R_drew)); exact HO202.out))) (below_size (by repeat (first | (with_reducible first | exact HB.out | apply below_alloc | apply pw_below_drewN | apply below_drew1 | refine below_set ?_ GE165.out | refine below_set ?_ GE175.out | refine below_set ?_ GE181.out | refine below_set ?_ GE194.out) | exact HB.out)))); have n6_ := Aside0.mk (blk_below (g := gb165) (o := .cells #[.slice Ao14 t162.length co14] 24 (0, 0)) (by (with_reducible repeat (first | refine blk_drewN ?_ _ | refine blk_drew ?_ | refine blk_alloc ?_ _)); exact BK165.out) hb); have n7_ := Aside0.mk (blk_below (g := gb175) (o := .cells #[.slice Ao22 t170.length co22] 24 (0, 0)) (by (with_reducible repeat (first | refine blk_drewN ?_ _ | refine blk_drew ?_ | refine blk_alloc ?_ _)); exact BK175.out) hb); have n8_ := Aside0.mk (blk_below (g := gb181) (o := .cells #[.slice Ao28 t176.length co28] 24 (0, 0)) (by (with_reducible repeat (first | refine blk_drewN ?_ _ | refine blk_drew ?_ | refine blk_alloc ?_ _)); exact BK181.out) hb); have n9_ := Aside0.mk (blk_below (g := gb194) (o := .cells #[.slice Ao41 t190.length co41] 24 (0, 0)) (by (with_reducible repeat (first | refine blk_drewN ?_ _ | refine blk_drew ?_ | refine blk_alloc ?_ _)); exact BK194.out) hb); have n10_ := Aside0.mk (below_step (by repeat (first | (with_reducible first | exact HB.out | apply below_alloc | apply pw_below_drewN | apply below_drew1 | refine below_set ?_ GE165.out | refine below_set ?_ GE175.out | refine below_set ?_ GE181.out | refine below_set ?_ GE194.out) | exact HB.out)) hb); clear HO_166000; clear HO_176000; clear HO_182000; clear HO_195000; clear HO202; clear BK165; clear BK175; clear BK181; clear BK194; clear HB; have HO_166000 := n0_; have HO_176000 := n1_; have HO_182000 := n2_; have HO_195000 := n3_; have HO202 := n4_; have HO206 := n5_; have BK165 := n6_; have BK175 := n7_; have BK181 := n8_; have BK194 := n9_; have HB := n10_; clear n0_ n1_ n2_ n3_ n4_ n5_ n6_ n7_ n8_ n9_ n10_; clear hb ho104; obtain ⟨Ao105, co105, eo105⟩ := Kd.R_slice HO206.out; subst eo105) | (go_at_call 23; (with_reducible refine (snowlineref02_Same.calls kj10 _ _ t176 _ _ y204 false _ ?side1 ?side2 ?side3 ?side4 A68.out).mono ?_); (case side1 => repeat (first | exact (Kd.R_reads' HO_182000.out).2.2 | (with_reducible refine Kd.C_alloc ?_ _) | (with_reducible refine Kd.C_drewN ?_ _) | (with_reducible refine Kd.C_drew ?_))); (case side2 => exact (Kd.R_reads' HO_182000.out).2.1); (case side3 => repeat (first | exact (Kd.R_reads' HO206.out).2.2 | (with_reducible refine Kd.C_alloc ?_ _) | (with_reducible refine Kd.C_drewN ?_ _) | (with_reducible refine Kd.C_drew ?_))); (case side4 => exact (Kd.R_reads' HO206.out).2.1); rintro e w106 ⟨rfl, hb⟩; have n0_ := Aside0.mk (Kd.R_below (by (with_reducible repeat (first | apply Kd.R_alloc | apply Kd.R_drewN | apply Kd.R_drew)); exact HO_166000.out) hb); have n1_ := Aside0.mk (Kd.R_below (by (with_reducible repeat (first | apply Kd.R_alloc | apply Kd.R_drewN | apply Kd.R_drew)); exact HO_176000.out) hb); have n2_ := Aside0.mk (Kd.R_below (by (with_reducible repeat (first | apply Kd.R_alloc | apply Kd.R_drewN | apply Kd.R_drew)); exact HO_182000.out) hb); have n3_ := Aside0.mk (Kd.R_below (by (with_reducible repeat (first | apply Kd.R_alloc | apply Kd.R_drewN | apply Kd.R_drew)); exact HO_195000.out) hb); have n4_ := Aside0.mk (Kd.R_below (by (with_reducible repeat (first | apply Kd.R_alloc | apply Kd.R_drewN | apply Kd.R_drew)); exact HO202.out) hb); have n5_ := Aside0.mk (Kd.R_below (by (with_reducible repeat (first | apply Kd.R_alloc | apply Kd.R_drewN | apply Kd.R_drew)); exact HO206.out) hb); have n6_ := Aside0.mk (blk_below (g := gb165) (o := .cells #[.slice Ao14 t162.length co14] 24 (0, 0)) (by (with_reducible repeat (first | refine blk_drewN ?_ _ | refine blk_drew ?_ | refine blk_alloc ?_ _)); exact BK165.out) hb); have n7_ := Aside0.mk (blk_below (g := gb175) (o := .cells #[.slice Ao22 t170.length co22] 24 (0, 0)) (by (with_reducible repeat (first | refine blk_drewN ?_ _ | refine blk_drew ?_ | refine blk_alloc ?_ _)); exact BK175.out) hb); have n8_ := Aside0.mk (blk_below (g := gb181) (o := .cells #[.slice Ao28 t176.length co28] 24 (0, 0)) (by (with_reducible repeat (first | refine blk_drewN ?_ _ | refine blk_drew ?_ | refine blk_alloc ?_ _)); exact BK181.out) hb); have n9_ := Aside0.mk (blk_below (g := gb194) (o := .cells #[.slice Ao41 t190.length co41] 24 (0, 0)) (by (with_reducible repeat (first | refine blk_drewN ?_ _ | refine blk_drew ?_ | refine blk_alloc ?_ _)); exact BK194.out) hb); have n10_ := Aside0.mk (below_step (by repeat (first | (with_reducible first | exact HB.out | apply below_alloc | apply pw_below_drewN | apply below_drew1 | refine below_set ?_ GE165.out | refine below_set ?_ GE175.out | refine below_set ?_ GE181.out | refine below_set ?_ GE194.out) | exact HB.out)) hb); clear HO_166000; clear HO_176000; clear HO_182000; clear HO_195000; clear HO202; clear HO206; clear BK165; clear BK175; clear BK181; clear BK194; clear HB; have HO_166000 := n0_; have HO_176000 := n1_; have HO_182000 := n2_; have HO_195000 := n3_; have HO202 := n4_; have HO206 := n5_; have BK165 := n6_; have BK175 := n7_; have BK181 := n8_; have BK194 := n9_; have HB := n10_; clear n0_ n1_ n2_ n3_ n4_ n5_ n6_ n7_ n8_ n9_ n10_; (try clear hb); (try clear hb2); (try clear hk); (try clear hi)))
                            go_ret
                            exact ⟨by first | rfl | (simp [errW_none, errW_some] <;> rfl) | (simp [*, errW_none, errW_some] <;> rfl), by repeat (first | (with_reducible first | exact HB.out | apply below_alloc | apply pw_below_drewN | apply below_drew1 | refine below_set ?_ GE165.out | refine below_set ?_ GE175.out | refine below_set ?_ GE181.out | refine below_set ?_ GE194.out) | exact HB.out)⟩
                        · replace c67 := Bool.eq_false_iff.mpr c67
                          subst c67
                          have H1 : (some false) = some r := by rw [if_neg (show ¬ (false = true) by decide)] at H; exact H
                          clear H
                          have H := H1
                          clear H1
                          obtain rfl := Option.some.inj H
                          have hnb107 := NB175_165.out
                          have hnc107 := NB165_175.out
                          have hnb108 := NB175_181.out
                          have hnc108 := NB181_175.out
                          have hnb109 := NB175_194.out
                          have hnc109 := NB194_175.out
                          have hcz110_0 : wc.cell? ⟨gb175, 0, none⟩ = some (.slice Ao22 t170.length co22) := (blk_cell BK175.out 0).trans rfl
                          have hfz110_0 := blk_frozen BK175.out 0
                          go_wp2_with (first | ((with_reducible refine gate_dst (N := 147) rfl ?_); (try (refine gate_guard (by rfl) ?_; dsimp only)); refine Kd.R_lit k48 _ 48 ?hg (N := 147) ?hd (xs := ([(⟨19, 0, 0⟩ : S48), (⟨105, 5, 0⟩ : S48)] : List (S48))) (inner := [.int .i64 19, .int .i64 0, .int .i64 0, .int .i64 105, .int .i64 5, .int .i64 0]) (ok := fun _ => True) (okp := fun _ => True) ?hr ?hp (fun _ hk => hk) trivial (Below.refl _ _) (Nat.le_refl _) (by simp) ?_; (case hd => rfl); (case hg => rfl); (case hr => first | (go_simp; done) | (go_simp; rfl)); (case hp => exact (Reps.c3 (show Kd.M k48 _ _ _ (⟨19, 0, 0⟩ : S48) [.int .i64 19, .int .i64 0, .int .i64 0] from (k48_mkM _ _ _ (⟨19, 0, 0⟩ : S48) )) (Reps.c3 (show Kd.M k48 _ _ _ (⟨105, 5, 0⟩ : S48) [.int .i64 105, .int .i64 5, .int .i64 0] from (k48_mkM _ _ _ (⟨105, 5, 0⟩ : S48) )) (Reps.none _ _)))); intro v201 w111 ho112 hb hg_ hnew_; clear hg_ hnew_; (first | rw [← Ny200.out] at ho112 | (simp only [Int.reduceToNat] at ho112; rw [← Ny200.out] at ho112)); have n0_ := Aside0.mk (Kd.R_elder' (by (with_reducible repeat (first | apply Kd.R_alloc | apply Kd.R_drewN | apply Kd.R_drew)); exact HO_166000.out) (Kd.R_base ho112) hb); have n1_ := Aside0.mk (Kd.R_elder' (by (with_reducible repeat (first | apply Kd.R_alloc | apply Kd.R_drewN | apply Kd.R_drew)); exact HO_176000.out) (Kd.R_base ho112) hb); have n2_ := Aside0.mk (Kd.R_elder' (by (with_reducible repeat (first | apply Kd.R_alloc | apply Kd.R_drewN | apply Kd.R_drew)); exact HO_182000.out) (Kd.R_base ho112) hb); have n3_ := Aside0.mk (Kd.R_elder' (by (with_reducible repeat (first | apply Kd.R_alloc | apply Kd.R_drewN | apply Kd.R_drew)); exact HO_195000.out) (Kd.R_base ho112) hb); have n4_ := Aside0.mk (Kd.R_lower (Kd.R_new' (Kd.R_new' (Kd.R_new' (Kd.R_new' ho112 (Kd.R_lt (by (with_reducible repeat (first | apply Kd.R_alloc | apply Kd.R_drewN | apply Kd.R_drew)); exact HO_166000.out))) (Kd.R_lt (by (with_reducible repeat (first | apply Kd.R_alloc | apply Kd.R_drewN | apply Kd.R_drew)); exact HO_176000.out))) (Kd.R_lt (by (with_reducible repeat (first | apply Kd.R_alloc | apply Kd.R_drewN | apply Kd.R_drew)); exact HO_182000.out))) (Kd.R_lt (by (with_reducible repeat (first | apply Kd.R_alloc | apply Kd.R_drewN | apply Kd.R_drew)); exact HO_195000.out))) (below_size (by repeat (first | (with_reducible first | exact HB.out | apply below_alloc | apply pw_below_drewN | apply below_drew1 | refine below_set ?_ GE165.out | refine below_set ?_ GE175.out | refine below_set ?_ GE181.out | refine below_set ?_ GE194.out) | exact HB.out)))); have n5_ := Aside0.mk (blk_below (g := gb165) (o := .cells #[.slice Ao14 t162.length co14] 24 (0, 0)) (by (with_reducible repeat (first | refine blk_drewN ?_ _ | refine blk_drew ?_ | refine blk_alloc ?_ _)); exact BK165.out) hb); have n6_ := Aside0.mk (blk_below (g := gb175) (o := .cells #[.slice Ao22 t170.length co22] 24 (0, 0)) (by (with_reducible repeat (first | refine blk_drewN ?_ _ | refine blk_drew ?_ | refine blk_alloc ?_ _)); exact BK175.out) hb); have n7_ := Aside0.mk (blk_below (g := gb181) (o := .cells #[.slice Ao28 t176.length co28] 24 (0, 0)) (by (with_reducible repeat (first | refine blk_drewN ?_ _ | refine blk_drew ?_ | refine blk_alloc ?_ _)); exact BK181.out) hb); have n8_ := Aside0.mk (blk_below (g := gb194) (o := .cells #[.slice Ao41 t190.length co41] 24 (0, 0)) (by (with_reducible repeat (first | refine blk_drewN ?_ _ | refine blk_drew ?_ | refine blk_alloc ?_ _)); exact BK194.out) hb); have n9_ := Aside0.mk (below_step (by repeat (first | (with_reducible first | exact HB.out | apply below_alloc | apply pw_below_drewN | apply below_drew1 | refine below_set ?_ GE165.out | refine below_set ?_ GE175.out | refine below_set ?_ GE181.out | refine below_set ?_ GE194.out) | exact HB.out)) hb); clear HO_166000; clear HO_176000; clear HO_182000; clear HO_195000; clear BK165; clear BK175; clear BK181; clear BK194; clear HB; have HO_166000 := n0_; have HO_176000 := n1_; have HO_182000 := n2_; have HO_195000 := n3_; have HO202 := n4_; have BK165 := n5_; have BK175 := n6_; have BK181 := n7_; have BK194 := n8_; have HB := n9_; clear n0_ n1_ n2_ n3_ n4_ n5_ n6_ n7_ n8_ n9_; clear hb ho112; obtain ⟨Ao113, co113, eo113⟩ := Kd.R_slice HO202.out; subst eo113) | (go_at_call 23; (with_reducible refine (snowlineref02_Same.calls kj10 _ _ t170 _ _ y200 false _ ?side1 ?side2 ?side3 ?side4 A66.out).mono ?_); (case side1 => repeat (first | exact (Kd.R_reads' HO_176000.out).2.2 | (with_reducible refine Kd.C_alloc ?_ _) | (with_reducible refine Kd.C_drewN ?_ _) | (with_reducible refine Kd.C_drew ?_))); (case side2 => exact (Kd.R_reads' HO_176000.out).2.1); (case side3 => repeat (first | exact (Kd.R_reads' HO202.out).2.2 | (with_reducible refine Kd.C_alloc ?_ _) | (with_reducible refine Kd.C_drewN ?_ _) | (with_reducible refine Kd.C_drew ?_))); (case side4 => exact (Kd.R_reads' HO202.out).2.1); rintro e w114 ⟨rfl, hb⟩; have n0_ := Aside0.mk (Kd.R_below (by (with_reducible repeat (first | apply Kd.R_alloc | apply Kd.R_drewN | apply Kd.R_drew)); exact HO_166000.out) hb); have n1_ := Aside0.mk (Kd.R_below (by (with_reducible repeat (first | apply Kd.R_alloc | apply Kd.R_drewN | apply Kd.R_drew)); exact HO_176000.out) hb); have n2_ := Aside0.mk (Kd.R_below (by (with_reducible repeat (first | apply Kd.R_alloc | apply Kd.R_drewN | apply Kd.R_drew)); exact HO_182000.out) hb); have n3_ := Aside0.mk (Kd.R_below (by (with_reducible repeat (first | apply Kd.R_alloc | apply Kd.R_drewN | apply Kd.R_drew)); exact HO_195000.out) hb); have n4_ := Aside0.mk (Kd.R_below (by (with_reducible repeat (first | apply Kd.R_alloc | apply Kd.R_drewN | apply Kd.R_drew)); exact HO202.out) hb); have n5_ := Aside0.mk (blk_below (g := gb165) (o := .cells #[.slice Ao14 t162.length co14] 24 (0, 0)) (by (with_reducible repeat (first | refine blk_drewN ?_ _ | refine blk_drew ?_ | refine blk_alloc ?_ _)); exact BK165.out) hb); have n6_ := Aside0.mk (blk_below (g := gb175) (o := .cells #[.slice Ao22 t170.length co22] 24 (0, 0)) (by (with_reducible repeat (first | refine blk_drewN ?_ _ | refine blk_drew ?_ | refine blk_alloc ?_ _)); exact BK175.out) hb); have n7_ := Aside0.mk (blk_below (g := gb181) (o := .cells #[.slice Ao28 t176.length co28] 24 (0, 0)) (by (with_reducible repeat (first | refine blk_drewN ?_ _ | refine blk_drew ?_ | refine blk_alloc ?_ _)); exact BK181.out) hb); have n8_ := Aside0.mk (blk_below (g := gb194) (o := .cells #[.slice Ao41 t190.length co41] 24 (0, 0)) (by (with_reducible repeat (first | refine blk_drewN ?_ _ | refine blk_drew ?_ | refine blk_alloc ?_ _)); exact BK194.out) hb); have n9_ := Aside0.mk (below_step (by repeat (first | (with_reducible first | exact HB.out | apply below_alloc | apply pw_below_drewN | apply below_drew1 | refine below_set ?_ GE165.out | refine below_set ?_ GE175.out | refine below_set ?_ GE181.out | refine below_set ?_ GE194.out) | exact HB.out)) hb); clear HO_166000; clear HO_176000; clear HO_182000; clear HO_195000; clear HO202; clear BK165; clear BK175; clear BK181; clear BK194; clear HB; have HO_166000 := n0_; have HO_176000 := n1_; have HO_182000 := n2_; have HO_195000 := n3_; have HO202 := n4_; have BK165 := n5_; have BK175 := n6_; have BK181 := n7_; have BK194 := n8_; have HB := n9_; clear n0_ n1_ n2_ n3_ n4_ n5_ n6_ n7_ n8_ n9_; (try clear hb); (try clear hb2); (try clear hk); (try clear hi)))
                          go_ret
                          exact ⟨by first | rfl | (simp [errW_none, errW_some] <;> rfl) | (simp [*, errW_none, errW_some] <;> rfl), by repeat (first | (with_reducible first | exact HB.out | apply below_alloc | apply pw_below_drewN | apply below_drew1 | refine below_set ?_ GE165.out | refine below_set ?_ GE175.out | refine below_set ?_ GE181.out | refine below_set ?_ GE194.out) | exact HB.out)⟩
                      · rw [if_neg c65] at H
                        have c65b0 : (t195.toList == ([112, 97, 99, 107, 32, 52, 48, 47, 50, 47, 48, 32, 49, 48, 48, 47, 48, 47, 53] : List UInt8)) = false := beq_eq_false_iff_ne.mpr c65
                        have c65b1 : (t195.toList != ([112, 97, 99, 107, 32, 52, 48, 47, 50, 47, 48, 32, 49, 48, 48, 47, 48, 47, 53] : List UInt8)) = true := bne_iff_ne.mpr c65
                        obtain rfl := Option.some.inj H
                        go_wp2
                        go_ret
                        exact ⟨by first | rfl | (simp [errW_none, errW_some] <;> rfl) | (simp [*, errW_none, errW_some] <;> rfl), by repeat (first | (with_reducible first | exact HB.out | apply below_alloc | apply pw_below_drewN | apply below_drew1 | refine below_set ?_ GE165.out | refine below_set ?_ GE175.out | refine below_set ?_ GE181.out | refine below_set ?_ GE194.out) | exact HB.out)⟩
                    · rw [if_neg c64] at H
                      have c64b0 : (t188 == 27) = false := beq_eq_false_iff_ne.mpr c64
                      have c64b1 : (t188 != 27) = true := bne_iff_ne.mpr c64
                      obtain rfl := Option.some.inj H
                      go_wp2
                      go_ret
                      exact ⟨by first | rfl | (simp [errW_none, errW_some] <;> rfl) | (simp [*, errW_none, errW_some] <;> rfl), by repeat (first | (with_reducible first | exact HB.out | apply below_alloc | apply pw_below_drewN | apply below_drew1 | refine below_set ?_ GE165.out | refine below_set ?_ GE175.out | refine below_set ?_ GE181.out | refine below_set ?_ GE194.out) | exact HB.out)⟩
                  · rw [if_neg c63] at H
                    have c63b0 : (t183 == 42) = false := beq_eq_false_iff_ne.mpr c63
                    have c63b1 : (t183 != 42) = true := bne_iff_ne.mpr c63
                    obtain rfl := Option.some.inj H
                    go_wp2
                    go_ret
                    exact ⟨by first | rfl | (simp [errW_none, errW_some] <;> rfl) | (simp [*, errW_none, errW_some] <;> rfl), by repeat (first | (with_reducible first | exact HB.out | apply below_alloc | apply pw_below_drewN | apply below_drew1 | refine below_set ?_ GE165.out | refine below_set ?_ GE175.out | refine below_set ?_ GE181.out | refine below_set ?_ GE194.out) | exact HB.out)⟩
                · rw [if_neg c62] at H
                  have c62b0 : (t182 == 1) = false := beq_eq_false_iff_ne.mpr c62
                  have c62b1 : (t182 != 1) = true := bne_iff_ne.mpr c62
                  obtain rfl := Option.some.inj H
                  go_wp2
                  go_ret
                  exact ⟨by first | rfl | (simp [errW_none, errW_some] <;> rfl) | (simp [*, errW_none, errW_some] <;> rfl), by repeat (first | (with_reducible first | exact HB.out | apply below_alloc | apply pw_below_drewN | apply below_drew1 | refine below_set ?_ GE165.out | refine below_set ?_ GE175.out | refine below_set ?_ GE181.out | refine below_set ?_ GE194.out) | exact HB.out)⟩
              · rw [if_neg c61] at H
                have c61b0 : (t179 == 0) = false := beq_eq_false_iff_ne.mpr c61
                have c61b1 : (t179 != 0) = true := bne_iff_ne.mpr c61
                obtain rfl := Option.some.inj H
                go_wp2
                go_ret
                exact ⟨by first | rfl | (simp [errW_none, errW_some] <;> rfl) | (simp [*, errW_none, errW_some] <;> rfl), by repeat (first | (with_reducible first | exact HB.out | apply below_alloc | apply pw_below_drewN | apply below_drew1 | refine below_set ?_ GE165.out | refine below_set ?_ GE175.out | refine below_set ?_ GE181.out | refine below_set ?_ GE194.out) | exact HB.out)⟩
            · rw [if_neg c60] at H
              have c60b0 : (t173 == 13) = false := beq_eq_false_iff_ne.mpr c60
              have c60b1 : (t173 != 13) = true := bne_iff_ne.mpr c60
              obtain rfl := Option.some.inj H
              go_wp2
              go_ret
              exact ⟨by first | rfl | (simp [errW_none, errW_some] <;> rfl) | (simp [*, errW_none, errW_some] <;> rfl), by repeat (first | (with_reducible first | exact HB.out | apply below_alloc | apply pw_below_drewN | apply below_drew1 | refine below_set ?_ GE165.out | refine below_set ?_ GE175.out | refine below_set ?_ GE181.out | refine below_set ?_ GE194.out) | exact HB.out)⟩
          · rw [if_neg c59] at H
            have c59b0 : (t168 == 10) = false := beq_eq_false_iff_ne.mpr c59
            have c59b1 : (t168 != 10) = true := bne_iff_ne.mpr c59
            obtain rfl := Option.some.inj H
            go_wp2
            go_ret
            exact ⟨by first | rfl | (simp [errW_none, errW_some] <;> rfl) | (simp [*, errW_none, errW_some] <;> rfl), by repeat (first | (with_reducible first | exact HB.out | apply below_alloc | apply pw_below_drewN | apply below_drew1 | refine below_set ?_ GE165.out | refine below_set ?_ GE175.out | refine below_set ?_ GE181.out | refine below_set ?_ GE194.out) | exact HB.out)⟩
        · rw [if_neg c58] at H
          have c58b0 : (t166 == 142) = false := beq_eq_false_iff_ne.mpr c58
          have c58b1 : (t166 != 142) = true := bne_iff_ne.mpr c58
          obtain rfl := Option.some.inj H
          go_wp2
          go_ret
          exact ⟨by first | rfl | (simp [errW_none, errW_some] <;> rfl) | (simp [*, errW_none, errW_some] <;> rfl), by repeat (first | (with_reducible first | exact HB.out | apply below_alloc | apply pw_below_drewN | apply below_drew1 | refine below_set ?_ GE165.out | refine below_set ?_ GE175.out | refine below_set ?_ GE181.out | refine below_set ?_ GE194.out) | exact HB.out)⟩
end Go.Proofs.YtpldcikmlpegpaaDoor.PB
end
section
namespace Go.Proofs.YtpldcikmlpegpaaDoor.PB
open Go.RowKit Go.Proofs.YtpldcikmlpegpaaDoorW.PrintWords Go.Proofs.YtpldcikmlpegpaaDoorW.PrintLast Go.Proofs.YtpldcikmlpegpaaDoorW.PrintMore
attribute [local go_sem] max2_int min2_int max_two min_two max_three min_three max_four min_four   -- for this text's walks alone
set_option linter.unusedVariables false
set_option linter.unusedSimpArgs false
def snowlinelaw02_few.l0 : Nat → List (S24) → Int → Option (Bool)
  | 0, _, _ => none
  | k + 1, x0, x3 => if x3 < (x0.length : Int) then (if 0 ≤ x3 then (if (((rd_T24 x0 x3).f0).length : Int) > 70 then (some false) else (snowlinelaw02_few.l0 k x0 (wrap64 (x3 + 1)))) else (none)) else (some true)
def snowlinelaw02_few.f (k : Nat) (l0 : List (S24)) : Option (Bool) := snowlinelaw02_few.l0 k l0 0
set_option maxHeartbeats 8000000 in
set_option maxRecDepth 100000 in
theorem snowlinelaw02_few.calls (k : Nat) (A0 : Option Addr) (c0 : Nat) (l0 : List (S24)) (r : Bool) (w : World) (hr0 : Kd.C k24 w A0 l0.length l0) (hc0 : l0.length ≤ c0) (h : snowlinelaw02_few.f k l0 = some r) :
    Calls Tryd.prog 19 #[.slice A0 l0.length c0] w fun e w' => e = .returned (.bool r) ∧ Drawn0 w w' := by
  have HR0 := Aside0.mk hr0
  have HC0 := Aside0.mk hc0
  clear hr0 hc0
  have H : (snowlinelaw02_few.l0 k l0 0) = some r := h
  clear h
  have H' := Aside0.mk H
  clear H
  go_enter Tryd.func19, Tryd.ntmps19
  go_wp2
  go_loopg [3] k (fun kq v3 w' => ∃ (x3_1 : Int), v3 = .int .i64 x3_1 ∧ Aside0 (snowlinelaw02_few.l0 kq l0 x3_1 = some r) ∧ Aside0 (kq ≤ k) ∧ Drawn0 w w')
  case atStart => exact ⟨(0), (by first | rfl | (simp; done) | (simp [*]; done)), H', ⟨Nat.le_refl _⟩, by repeat (first | exact Drawn0.refl _ | apply Drawn0.step)⟩
  case round =>
    clear H'
    try clear c1
    obtain ⟨x3_1, rfl, HA, HK1, ⟨m1, rfl⟩⟩ := hrel
    cases gk with
    | zero => exact absurd HA.out (by simp [snowlinelaw02_few.l0])
    | succ k1 =>
      have H := HA.out
      clear HA
      simp only [snowlinelaw02_few.l0] at H
      by_cases c2 : x3_1 < (l0.length : Int)
      · rw [if_pos c2] at H
        have c2b0 : decide (x3_1 < (l0.length : Int)) = true := decide_eq_true c2
        clear c2
        by_cases c3 : 0 ≤ x3_1
        · rw [if_pos c3] at H
          have c3b0 : decide (0 ≤ x3_1) = true := decide_eq_true c3
          clear c3
          by_cases c4 : (((rd_T24 l0 x3_1).f0).length : Int) > 70
          · rw [if_pos c4] at H
            have c4b0 : decide (70 < (((rd_T24 l0 x3_1).f0).length : Int)) = true := decide_eq_true c4
            have c4b1 : decide (70 < ((rd_T24 l0 x3_1).f0).length) = true := decide_eq_true (by omega)
            clear c4
            obtain rfl := Option.some.inj H
            have p212 : 0 ≤ (x3_1 : Int) := of_decide_eq_true (by first | (with_reducible assumption) | assumption)
            have q212 : x3_1 < (l0.length : Int) := of_decide_eq_true (by first | (with_reducible assumption) | assumption)
            obtain ⟨ad212, A212_0, c212_0, e212, hx212_0, hl212_0, hi212_0⟩ := at_T24 HR0.out x3_1 p212 q212
            cases e212
            have HR212_0 := Aside0.mk hi212_0
            have HC212_0 := Aside0.mk hl212_0
            clear hi212_0 hl212_0
            replace p212 := eq_true p212
            replace q212 := eq_true q212
            go_wp2
            go_ret
            exact ⟨by first | rfl | (simp; done) | (simp [*]; done), by repeat (first | exact Drawn0.refl _ | apply Drawn0.step)⟩
          · rw [if_neg c4] at H
            have c4b0 : decide (70 < (((rd_T24 l0 x3_1).f0).length : Int)) = false := decide_eq_false c4
            have c4b1 : decide (70 < ((rd_T24 l0 x3_1).f0).length) = false := decide_eq_false (by omega)
            clear c4
            have H' := Aside0.mk H
            clear H
            have p212 : 0 ≤ (x3_1 : Int) := of_decide_eq_true (by first | (with_reducible assumption) | assumption)
            have q212 : x3_1 < (l0.length : Int) := of_decide_eq_true (by first | (with_reducible assumption) | assumption)
            obtain ⟨ad212, A212_0, c212_0, e212, hx212_0, hl212_0, hi212_0⟩ := at_T24 HR0.out x3_1 p212 q212
            cases e212
            have HR212_0 := Aside0.mk hi212_0
            have HC212_0 := Aside0.mk hl212_0
            clear hi212_0 hl212_0
            replace p212 := eq_true p212
            replace q212 := eq_true q212
            go_wp2
            go_roundg k1
            case measure => have := HK1.out; omega
            case rel => exact ⟨(wrap64 (x3_1 + 1)), (by first | rfl | (simp; done) | (simp [*]; done)), H', ⟨by have := HK1.out; omega⟩, by repeat (first | exact Drawn0.refl _ | apply Drawn0.step)⟩
        · rw [if_neg c3] at H
          exact absurd H (by simp)
      · rw [if_neg c2] at H
        have c2b0 : decide (x3_1 < (l0.length : Int)) = false := decide_eq_false c2
        clear c2
        obtain rfl := Option.some.inj H
        go_wp2
        go_ret
        exact ⟨by first | rfl | (simp; done) | (simp [*]; done), by repeat (first | exact Drawn0.refl _ | apply Drawn0.step)⟩
def snowlineref02_within.f (a0 : Int) (a1 : Int) (a2 : Int) : Option (Bool) := if a0 ≥ a1 then (some (decide (a0 ≤ a2))) else (some false)
set_option maxHeartbeats 8000000 in
set_option maxRecDepth 100000 in
theorem snowlineref02_within.calls (a0 : Int) (a1 : Int) (a2 : Int) (r : Bool) (w : World) (h : snowlineref02_within.f a0 a1 a2 = some r) :
    Calls Tryd.prog 71 #[.int .i64 a0, .int .i64 a1, .int .i64 a2] w fun e w' => e = .returned (.bool r) ∧ Drawn0 w w' := by
  have H : (if a0 ≥ a1 then (some (decide (a0 ≤ a2))) else (some false)) = some r := h
  clear h
  by_cases c4 : a0 ≥ a1
  · rw [if_pos c4] at H
    have c4b0 : decide (a1 ≤ a0) = true := decide_eq_true c4
    clear c4
    obtain rfl := Option.some.inj H
    go_enter Tryd.func71, Tryd.ntmps71
    go_wp2
    go_ret
    exact ⟨by first | rfl | (simp; done) | (simp [*]; done), by repeat (first | exact Drawn0.refl _ | apply Drawn0.step)⟩
  · rw [if_neg c4] at H
    have c4b0 : decide (a1 ≤ a0) = false := decide_eq_false c4
    clear c4
    obtain rfl := Option.some.inj H
    go_enter Tryd.func71, Tryd.ntmps71
    go_wp2
    go_ret
    exact ⟨by first | rfl | (simp; done) | (simp [*]; done), by repeat (first | exact Drawn0.refl _ | apply Drawn0.step)⟩
def snowlineref02_hold.f (a0_0 : Int) (a0_1 : Int) (a0_2 : Int) : Option (Int) := some (wrap64 (Int.tdiv a0_0 20))
set_option maxHeartbeats 8000000 in
set_option maxRecDepth 100000 in
theorem snowlineref02_hold.calls (a0_0 : Int) (a0_1 : Int) (a0_2 : Int) (r : Int) (w : World) (h : snowlineref02_hold.f a0_0 a0_1 a0_2 = some r) :
    Calls Tryd.prog 82 #[.agg #[.int .i64 a0_0, .int .i64 a0_1, .int .i64 a0_2]] w fun e w' => e = .returned (.int .i64 r) ∧ Below w.heap.size w w' := by
  have hu48 := Tryd.underlying48
  have HB := Aside0.mk (Below.refl w.heap.size w)
  have H : (some (wrap64 (Int.tdiv a0_0 20))) = some r := h
  clear h
  obtain rfl := Option.some.inj H
  go_enter Tryd.func82, Tryd.ntmps82
  go_wp2_with (first | ((with_reducible refine gate_dst (N := 1) rfl ?_); refine box_event ?hg (N := 1) ?hd (cs := #[.int .i64 a0_0, .int .i64 a0_1, .int .i64 a0_2]) (t := 48) ?hr ?_; (case hd => rfl); (case hg => rfl); (case hr => first | (go_simp; done) | (go_simp; rfl)); intro gb216 hg w2 hbox hb; have n0_ := Aside0.mk (below_step (by repeat (first | (with_reducible first | exact HB.out | apply below_alloc | apply pw_below_drewN | apply below_drew1) | exact HB.out)) hb); have n1_ := Aside0.mk (hbox); have n2_ := Aside0.mk ((by rw [hg]; exact (below_size (by repeat (first | (with_reducible first | exact HB.out | apply below_alloc | apply pw_below_drewN | apply below_drew1) | exact HB.out))) : w.heap.size ≤ gb216)); have n3_ := Aside0.mk ((by rw [hg]; exact (below_size (by repeat (first | (with_reducible first | exact HB.out | apply below_alloc | apply pw_below_drewN | apply below_drew1) | exact HB.out))) : w.heap.size ≤ gb216)); clear HB; have HB := n0_; have BK216 := n1_; have GW216 := n2_; have GE216 := n3_; clear n0_ n1_ n2_ n3_; clear hb hbox hg; have hcz3_0 : w2.cell? ⟨gb216, 0, none⟩ = some (.int .i64 a0_0) := (blk_cell BK216.out 0).trans rfl; have hcz3_1 : w2.cell? ⟨gb216, 1, none⟩ = some (.int .i64 a0_1) := (blk_cell BK216.out 1).trans rfl; have hcz3_2 : w2.cell? ⟨gb216, 2, none⟩ = some (.int .i64 a0_2) := (blk_cell BK216.out 2).trans rfl; have hfz3_0 := blk_frozen BK216.out 0; have hfz3_1 := blk_frozen BK216.out 1; have hfz3_2 := blk_frozen BK216.out 2))
  go_ret
  exact ⟨by first | rfl | (simp [errW_none, errW_some] <;> rfl) | (simp [*, errW_none, errW_some] <;> rfl), by repeat (first | (with_reducible first | exact HB.out | apply below_alloc | apply pw_below_drewN | apply below_drew1 | refine below_set ?_ GE216.out) | exact HB.out)⟩
end Go.Proofs.YtpldcikmlpegpaaDoor.PB
end
