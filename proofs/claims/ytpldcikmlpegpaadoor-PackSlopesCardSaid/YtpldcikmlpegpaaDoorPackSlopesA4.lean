/-
The tied card of the law PackSlopes of snowlinelaw02 holds: it answers true for every pack and all two steepnesses, and changes nothing.
-/
import Derived.Deep.RegionLaw
import Derived.Lib.SliceRun
import Derived.Outline
import Derived.Deep.DeepCutAuto
import Derived.IntWalk
import Derived.KernelRfl
import Derived.Test.YtpldcikmlpegpaaDoorTie
import Derived.Test.YtpldcikmlpegpaaDoorCards
import Derived.SevenTiedAt
import Derived.Test.YtpldcikmlpegpaaDoorPackSlopesA1
import Derived.Test.YtpldcikmlpegpaaDoorPackSlopesA2
import Derived.Test.YtpldcikmlpegpaaDoorPackSlopesA3
section
namespace Go.Proofs.YtpldcikmlpegpaaDoor.Col
open Go.RowKit Go.Proofs.YtpldcikmlpegpaaDoor.PB Go.Proofs.YtpldcikmlpegpaaDoorW.PrintWords Go.Proofs.YtpldcikmlpegpaaDoorW.PrintLast Go.Proofs.YtpldcikmlpegpaaDoorW.PrintMore
def Row (w : World) (g cap : Nat) (xs : List S48) : Prop :=
  ∃ cur : List Value, w.heap[g]? = some (.cells cur.toArray 48 (0, 0)) ∧ xs.length ≤ cap ∧ cap ≤ maxLen ∧ cur.length = cap * 3 ∧ cur.take (xs.length * 3) = xs.flatMap lcells
theorem reps_flat : ∀ (xs : List S48) (cs : List Value) (W : World) (base : Nat) (ok : Nat → Prop), Reps (k48.M W base ok) 3 xs cs → cs = xs.flatMap lcells := by
  intro xs
  induction xs with
  | nil => intro cs W base ok h; exact List.eq_nil_of_length_eq_zero (by simpa using h.1)
  | cons x xs ih =>
    intro cs W base ok h
    have h0 := k48_openM (h.2 0 x rfl)
    simp only [Nat.zero_mul, List.drop_zero] at h0
    have h1 := ih (cs.drop 3) W base ok ⟨by rw [List.length_drop, h.1, List.length_cons]; omega, fun j p hp => by
      have := h.2 (j + 1) p (by simpa using hp)
      rw [List.drop_drop]
      rwa [show 3 + j * 3 = (j + 1) * 3 by omega]⟩
    rw [List.flatMap_cons, ← h1]
    have e : cs = cs.take 3 ++ cs.drop 3 := (List.take_append_drop 3 cs).symm
    rw [h0] at e
    exact e
theorem flat_reps (xs : List S48) (W : World) (base : Nat) (ok : Nat → Prop) : Reps (k48.M W base ok) 3 xs (xs.flatMap lcells) := by
  refine ⟨flat_len xs, fun j p hp => ?_⟩
  have hj : j < xs.length := (List.getElem?_eq_some_iff.1 hp).1
  have e : ((xs.flatMap lcells).drop (j * 3)).take 3 = lcells p := by
    apply List.ext_getElem?
    intro i
    by_cases hi : i < 3
    · rw [List.getElem?_take_of_lt hi, List.getElem?_drop, flat_get xs j i hj hi, List.getD_eq_getElem?_getD, hp]
      rfl
    · rw [List.getElem?_eq_none (by simp; omega), List.getElem?_eq_none (by simp [lcells]; omega)]
  rw [e]
  exact k48_mkM W base ok p
theorem Row.of_R {w : World} {base : Nat} {v : Value} {xs : List S48} {ok : Nat → Prop} (h : Kd.R k48 48 w base ok v xs) :
    (v = .slice none 0 0 ∧ xs = []) ∨ ∃ g cap, v = .slice (some ⟨g, 0, none⟩) xs.length cap ∧ base ≤ g ∧ Row w g cap xs := by
  obtain ⟨_, inner, ⟨hl, hh⟩, hr⟩ := h
  rcases hh with ⟨rfl, h0⟩ | ⟨g, cap, cur, rfl, hg, hb, hn, hm, hs, ht⟩
  · exact .inl ⟨rfl, List.eq_nil_of_length_eq_zero h0⟩
  · refine .inr ⟨g, cap, rfl, hg, cur.toList, by simpa using hb, hn, hm, by rw [Array.length_toList]; exact hs, ?_⟩
    rw [show xs.length * 3 = xs.length * k48.sz from rfl, ht]
    exact reps_flat xs inner _ _ _ hr
theorem Row.to_R {w : World} {g cap : Nat} {xs : List S48} (h : Row w g cap xs) {base : Nat} (hb : base ≤ g) : Kd.R k48 48 w base (fun _ => True) (.slice (some ⟨g, 0, none⟩) xs.length cap) xs := by
  obtain ⟨cur, h1, h2, h3, h4, h5⟩ := h
  exact ⟨fun _ _ => trivial, xs.flatMap lcells, ⟨flat_len xs, .inr ⟨g, cap, cur.toArray, rfl, hb, h1, h2, h3, by rw [List.size_toArray]; exact h4, h5⟩⟩, flat_reps xs _ _ _⟩
section
variable {w : World} {g cap : Nat} {xs : List S48}
theorem Row.layer (h : Row w g cap xs) (i j : Nat) (hi : i < xs.length) (hj : j < 3) : w.cell? ⟨g, i * 3 + j, none⟩ = (lcells (xs.getD i z48))[j]? := by
  obtain ⟨cur, h1, h2, h3, h4, h5⟩ := h
  rw [blk_cell h1, List.getElem?_toArray, ← flat_get xs i j hi hj, ← h5, List.getElem?_take_of_lt (by omega)]
theorem Row.ice (h : Row w g cap xs) (i : Nat) (hi : i < xs.length) : w.cell? ⟨g, i * 3, none⟩ = some (.int .i64 (xs.getD i z48).f0) := h.layer i 0 hi (by omega)
theorem Row.wet (h : Row w g cap xs) (i : Nat) (hi : i < xs.length) : w.cell? ⟨g, i * 3 + 1, none⟩ = some (.int .i64 (xs.getD i z48).f1) := h.layer i 1 hi (by omega)
theorem Row.cold (h : Row w g cap xs) (i : Nat) (hi : i < xs.length) : w.cell? ⟨g, i * 3 + 2, none⟩ = some (.int .i64 (xs.getD i z48).f2) := h.layer i 2 hi (by omega)
theorem Row.free (h : Row w g cap xs) (k : Nat) : w.frozen? ⟨g, k, none⟩ = false := by obtain ⟨cur, h1, _⟩ := h; exact blk_frozen h1 k
theorem Row.lt (h : Row w g cap xs) : g < w.heap.size := by obtain ⟨cur, h1, _⟩ := h; exact blk_lt h1
theorem Row.le (h : Row w g cap xs) : xs.length ≤ cap := by obtain ⟨cur, _, h2, _⟩ := h; exact h2
theorem Row.max (h : Row w g cap xs) : cap ≤ maxLen := by obtain ⟨cur, _, _, h3, _⟩ := h; exact h3
theorem Row.some_ (h : Row w g cap xs) (k : Nat) (hk : k < cap * 3) : (w.cell? ⟨g, k, none⟩).isSome = true := by
  obtain ⟨cur, h1, h2, h3, h4, h5⟩ := h
  rw [blk_cell h1, List.getElem?_toArray, List.getElem?_eq_getElem (by omega)]
  rfl
theorem Row.drew (h : Row w g cap xs) : Row w.drew g cap xs := h
theorem Row.drewN (h : Row w g cap xs) (n : Nat) : Row (w.drewN n) g cap xs := h
theorem Row.below {w' : World} (h : Row w g cap xs) (hb : Below w.heap.size w w') : Row w' g cap xs := by
  obtain ⟨cur, h1, h2⟩ := h
  exact ⟨cur, blk_below h1 hb, h2⟩
theorem KeepG.setCells (g : Nat) : ∀ (vs : List Value) (o : Nat) (w : World), KeepG g w (w.setCells g o vs)
  | [], _, _ => KeepG.refl _ _
  | v :: r, o, w => (KeepG.set g w o v).trans (KeepG.setCells g r (o + 1) _)
theorem heap_setCells (g : Nat) (t : TypeId) : ∀ (vs : List Value) (o : Nat) (w : World) (cur : List Value), w.heap[g]? = some (.cells cur.toArray t (0, 0)) → o + vs.length ≤ cur.length → (w.setCells g o vs).heap[g]? = some (.cells (splice cur o vs).toArray t (0, 0))
  | [], o, w, cur, h, _ => by simpa [splice, World.setCells] using h
  | v :: r, o, w, cur, h, hl => by
    have h1 := blk_set h o v
    rw [List.setIfInBounds_toArray] at h1
    have ih := heap_setCells g t r (o + 1) (w.setCell ⟨g, o, none⟩ v) (cur.set o v) h1 (by simp at hl ⊢; omega)
    rw [World.setCells, ih]
    have e := list_seg_step cur o v r (by simp at hl; omega)
    unfold splice
    simp only [List.length_cons]
    simp only [List.append_assoc] at e
    rw [e]
theorem Row.lay (h : Row w g cap xs) (o : Nat) (vs : List Value) (ys : List S48) (ho : o + vs.length ≤ cap * 3) (hl : ys.length ≤ cap)
    (e : ∀ cur : List Value, cur.length = cap * 3 → cur.take (xs.length * 3) = xs.flatMap lcells → (splice cur o vs).take (ys.length * 3) = ys.flatMap lcells) : Row (w.setCells g o vs) g cap ys := by
  obtain ⟨cur, h1, h2, h3, h4, h5⟩ := h
  exact ⟨splice cur o vs, heap_setCells g _ vs o w cur h1 (by omega), hl, h3, by rw [length_splice _ _ _ (by omega)]; exact h4, e cur h4 h5⟩
theorem Row.put (h : Row w g cap xs) (i : Nat) (hi : i < xs.length) (x y z : Int) :
    Row (((w.setCell ⟨g, i * 3, none⟩ (.int .i64 x)).setCell ⟨g, i * 3 + 1, none⟩ (.int .i64 y)).setCell ⟨g, i * 3 + 2, none⟩ (.int .i64 z)) g cap (xs.set i ⟨x, y, z⟩) := by
  have hle := h.le
  refine Row.lay h (i * 3) (lcells ⟨x, y, z⟩) (xs.set i ⟨x, y, z⟩) (by simp [lcells]; omega) (by simpa using hle) (fun cur hc ht => ?_)
  have hL : (lcells ⟨x, y, z⟩).length = 3 := rfl
  apply List.ext_getElem?
  intro k
  by_cases hk : k < xs.length * 3
  · rw [List.getElem?_take_of_lt (by simpa using hk)]
    have ek : k = k / 3 * 3 + k % 3 := by omega
    have h3 : k % 3 < 3 := by omega
    have hk3 : k / 3 < xs.length := by omega
    have e2 : ((xs.set i ⟨x, y, z⟩).flatMap lcells)[k]? = (lcells ((xs.set i ⟨x, y, z⟩).getD (k / 3) z48))[k % 3]? := by
      conv => lhs; rw [ek]
      exact flat_get _ _ _ (by simpa using hk3) h3
    have e3 : cur[k]? = (lcells (xs.getD (k / 3) z48))[k % 3]? := by
      have : (cur.take (xs.length * 3))[k]? = cur[k]? := List.getElem?_take_of_lt hk
      rw [← this, ht]
      conv => lhs; rw [ek]
      exact flat_get _ _ _ hk3 h3
    rw [e2]
    unfold splice
    by_cases hki : k / 3 = i
    · rw [List.getElem?_append_right (by simp; omega), List.getElem?_append_left (by simp [hL]; omega)]
      have e4 : k - (cur.take (i * 3)).length = k % 3 := by simp; omega
      rw [e4, hki]
      simp [List.getD_eq_getElem?_getD, hi]
    · have e5 : (xs.set i ⟨x, y, z⟩).getD (k / 3) z48 = xs.getD (k / 3) z48 := by
        simp [List.getD_eq_getElem?_getD, List.getElem?_set_ne (Ne.symm hki)]
      rw [e5, ← e3]
      by_cases hlt : k < i * 3
      · rw [List.getElem?_append_left (by simp; omega), List.getElem?_take_of_lt hlt]
      · rw [List.getElem?_append_right (by simp; omega), List.getElem?_append_right (by simp [hL]; omega), List.getElem?_drop]
        congr 1
        simp [hL]
        omega
  · rw [List.getElem?_eq_none (by simp; omega), List.getElem?_eq_none (by rw [flat_len]; simp; omega)]
end
end Go.Proofs.YtpldcikmlpegpaaDoor.Col
end
section
namespace Go.Proofs.YtpldcikmlpegpaaDoor.Col
open Go.RowKit Go.Proofs.YtpldcikmlpegpaaDoor.PB Go.Proofs.YtpldcikmlpegpaaDoorW.PrintWords Go.Proofs.YtpldcikmlpegpaaDoorW.PrintLast Go.Proofs.YtpldcikmlpegpaaDoorW.PrintMore
theorem run_clear_wide {P : Program} (w : World) (t e ty : TypeId) (z : Value) (ht : P.underlying t = some (.slice e)) (hv : ∀ w, (zeroValue e).run P w = .ok z w) (b o n c : Nat) (hn : 0 < n) (Z : List Value) (hZ : (Builtin.zeroCells z.cells n).toList = Z) (h1 : ∀ v ∈ Z, v.oneCell' = true)
    (hc : ∀ j, j < Z.length → (w.cell? ⟨b, o + j, none⟩).isSome = true) (hf : ∀ j, j < Z.length → w.frozen? ⟨b, o + j, none⟩ = false) :
    (Builtin.clear_ #[t] ty #[.slice (some ⟨b, o, none⟩) n c]).run P w = .ok (.tuple #[]) (w.setCells b o Z) := by
  have hst := run_storeCells_cells (P := P) b o Z 0 w (by simpa using hc) (by simpa using hf) h1
  simp only [Nat.add_zero] at hst
  obtain ⟨m, rfl⟩ : ∃ m, n = m + 1 := ⟨n - 1, by omega⟩
  simp [Builtin.clear_, run_underlying ht, hv, hZ, hst]
theorem zero_layer (w : World) : (zeroValue 48).run Tryd.prog w = .ok (.agg #[.int .i64 0, .int .i64 0, .int .i64 0]) w := by kernel_rfl
theorem zeros_len (n : Nat) : (Builtin.zeroCells (Value.agg #[.int .i64 0, .int .i64 0, .int .i64 0]).cells n).toList.length = n * 3 := by
  simp [Builtin.zeroCells, Value.cells]
theorem zeros_one (n : Nat) : ∀ v ∈ (Builtin.zeroCells (Value.agg #[.int .i64 0, .int .i64 0, .int .i64 0]).cells n).toList, v.oneCell' = true := by
  intro v hv
  simp only [Builtin.zeroCells, Value.cells, Array.toList_map, List.mem_map] at hv
  obtain ⟨i, _, rfl⟩ := hv
  have h3 : i % 3 = 0 ∨ i % 3 = 1 ∨ i % 3 = 2 := by omega
  show ((#[Value.int .i64 0, .int .i64 0, .int .i64 0] : Array Value)[i % 3]!).oneCell' = true
  rcases h3 with h | h | h <;> rw [h] <;> rfl
theorem flat_drop (xs : List S48) : ∀ (i : Nat), (xs.drop i).flatMap lcells = (xs.flatMap lcells).drop (i * 3) := by
  induction xs with
  | nil => intro i; simp
  | cons x xs ih =>
    intro i
    cases i with
    | zero => simp
    | succ i =>
      rw [List.drop_succ_cons, ih, List.flatMap_cons, List.drop_append]
      have e1 : (lcells x).drop ((i + 1) * 3) = [] := List.drop_eq_nil_of_le (by simp [lcells]; omega)
      have e2 : (i + 1) * 3 - (lcells x).length = i * 3 := by simp [lcells]; omega
      rw [e1, e2, List.nil_append]
theorem flat_take (xs : List S48) : ∀ (i : Nat), (xs.take i).flatMap lcells = (xs.flatMap lcells).take (i * 3) := by
  induction xs with
  | nil => intro i; simp
  | cons x xs ih =>
    intro i
    cases i with
    | zero => simp
    | succ i =>
      rw [List.take_succ_cons, List.flatMap_cons, ih, List.flatMap_cons, List.take_append]
      have e1 : (lcells x).take ((i + 1) * 3) = lcells x := List.take_of_length_le (by simp [lcells]; omega)
      have e2 : (i + 1) * 3 - (lcells x).length = i * 3 := by simp [lcells]; omega
      rw [e1, e2]
set_option maxHeartbeats 4000000 in
set_option maxRecDepth 1000000 in
theorem delete_calls (g cap i j : Nat) (xs : List S48) (w : World) (hr : Row w g cap xs) (hij : i < j) (hj : j ≤ xs.length) :
    Calls Tryd.prog 70 #[.slice (some ⟨g, 0, none⟩) xs.length cap, .int .i64 i, .int .i64 j] w fun e w' => e = .returned (.slice (some ⟨g, 0, none⟩) (i + (xs.length - j)) cap) ∧ Row w' g cap (xs.take i ++ xs.drop j) ∧ KeepG g w w' := by
  have hcap : xs.length ≤ cap := hr.le
  have hmax : cap ≤ 9223372036854775807 := by have := hr.max; unfold maxLen at this; omega
  obtain ⟨i0, hi0, hz0, hz1, hz2⟩ := info_parts info48
  obtain ⟨n, hn⟩ : ∃ n, xs.length = n := ⟨_, rfl⟩
  obtain ⟨news, hnews⟩ : ∃ news, (xs.drop j).flatMap lcells = news := ⟨_, rfl⟩
  have hlen : news.length = (n - j) * 3 := by rw [← hnews, flat_len, List.length_drop, hn]
  obtain ⟨A, hA, hsrc⟩ : ∃ A : Addr, (if cap = j then some (⟨g, 0, none⟩ : Addr) else some ⟨g, j * 3, none⟩) = some A ∧ Hid (∀ t u, news[t]? = some u → w.drew.cell? (A.add t) = some u) := by
    by_cases h : cap = j
    · refine ⟨⟨g, 0, none⟩, by simp [h], fun t u hu => ?_⟩
      have h0 : news.length = 0 := by rw [hlen]; omega
      rw [List.length_eq_zero_iff.1 h0] at hu
      simp at hu
    · refine ⟨⟨g, j * 3, none⟩, by simp [h], fun t u hu => ?_⟩
      have ht : t < (n - j) * 3 := by have := (List.getElem?_eq_some_iff.1 hu).1; rwa [hlen] at this
      rw [Addr.add_lit]
      have e : j * 3 + t = (j + t / 3) * 3 + t % 3 := by omega
      rw [e]
      show w.cell? _ = _
      rw [hr.layer (j + t / 3) (t % 3) (by omega) (by omega), ← flat_get xs _ _ (by omega) (by omega), ← e, ← hu, ← hnews, flat_drop, List.getElem?_drop]
  have s1 : Hid (news.length = (n - j) * 3) := hlen
  have s2 : Hid (∀ u ∈ news, u.oneCell' = true) := by rw [← hnews]; exact flat_one _
  have s3 : Hid (∀ t, t < news.length → (w.drew.cell? ⟨g, 0 + i * 3 + t, none⟩).isSome = true ∧ w.drew.frozen? ⟨g, 0 + i * 3 + t, none⟩ = false) := by
    intro t ht
    rw [hlen] at ht
    exact ⟨hr.some_ _ (by omega), hr.free _⟩
  obtain ⟨W1, hW1⟩ : ∃ W1, W1 = w.drew.setCells g (0 + i * 3) news := ⟨_, rfl⟩
  have hlast : i + (n - j) < n := by omega
  have hr1 : Row W1 g cap (xs.take i ++ xs.drop j) := by
    rw [hW1]
    refine hr.drew.lay (0 + i * 3) news (xs.take i ++ xs.drop j) (by omega) (by simp; omega) (fun cur hc ht => ?_)
    have e1 : (xs.take i ++ xs.drop j).length * 3 = i * 3 + news.length := by rw [hlen]; simp; omega
    rw [e1, List.flatMap_append, hnews, flat_take, ← ht]
    unfold splice
    rw [Nat.zero_add, ← List.append_assoc, List.take_append_of_le_length (by simp; omega), List.take_of_length_le (by simp; omega), List.take_take]
    rw [hn, Nat.min_eq_left (by omega)]
  have K1 : Aside0 (KeepG g w W1) := ⟨by rw [hW1]; exact (KeepG.drew g w).trans (KeepG.setCells _ _ _ _)⟩
  have hl1 : (xs.take i ++ xs.drop j).length = i + (n - j) := by simp; omega
  obtain ⟨Z, hZ⟩ : ∃ Z, (Builtin.zeroCells (Value.agg #[.int .i64 0, .int .i64 0, .int .i64 0]).cells (n - (i + (n - j)))).toList = Z := ⟨_, rfl⟩
  have hZl : Z.length = (n - (i + (n - j))) * 3 := by rw [← hZ]; exact zeros_len _
  have hcl : ∀ ty, (Builtin.clear_ #[22] ty #[.slice (some ⟨g, (i + (n - j)) * 3, none⟩) (n - (i + (n - j))) (cap - (i + (n - j)))]).run Tryd.prog W1 = .ok (.tuple #[]) (W1.setCells g ((i + (n - j)) * 3) Z) :=
    fun ty => run_clear_wide W1 _ _ ty _ Tryd.underlying22 zero_layer g ((i + (n - j)) * 3) _ _ (by omega) Z hZ (by rw [← hZ]; exact zeros_one _) (fun t ht => hr1.some_ _ (by omega)) (fun t ht => hr1.free _)
  have R2 : Aside0 (Row (W1.setCells g ((i + (n - j)) * 3) Z) g cap (xs.take i ++ xs.drop j)) := by
    refine ⟨hr1.lay _ Z _ (by omega) (by omega) (fun cur hc ht => ?_)⟩
    unfold splice
    rw [hl1] at ht ⊢
    rw [List.take_append_of_le_length (by simp; omega), List.take_take, Nat.min_self]
    exact ht
  have hW : Hid (W1 = w.drew.setCells g (0 + i * 3) news) := hW1
  have hic : i ≤ cap := by omega
  have hjc : j ≤ cap := by omega
  rw [hn] at hj hcap ⊢
  have i1 : (0 : Int) ≤ (i : Int) := by omega
  have i2 : (i : Int) ≤ (j : Int) := by omega
  have i3 : (j : Int) ≤ (n : Int) := by omega
  have i4 : (n : Int) ≤ (cap : Int) := by omega
  have z0 : ((i : Int) == (j : Int)) = false := by simp; omega
  clear hW1 hr1 hr hlen hnews hl1 hZ hZl hn
  go_enter Tryd.func70, Tryd.ntmps70
  go_upto_region 5 with (fail)
  go_region_law (refine step_append_room rfl (.tmp 22) (.tmp 25) 22 rfl 48 i0 3 Tryd.underlying22 hi0 hz1 g 0 i cap (by simp [Act.eval, Act.put]) A (n - j) (cap - j) news (by simp [Act.eval, Act.put]) s1.out hsrc.out s2.out (by omega) s3.out ?_; rw [← hW.out])
  go_wp2
  go_ret
  exact ⟨rfl, R2.out, K1.out.trans (KeepG.setCells _ _ _ _)⟩
theorem delete_calls' (g cap i j n : Nat) (I J : Int) (xs : List S48) (w : World) (hn : xs.length = n) (hI : I = (i : Int)) (hJ : J = (j : Int)) (hr : Row w g cap xs) (hij : i < j) (hj : j ≤ n) :
    Calls Tryd.prog 70 #[.slice (some ⟨g, 0, none⟩) n cap, .int .i64 I, .int .i64 J] w fun e w' => e = .returned (.slice (some ⟨g, 0, none⟩) (i + (n - j)) cap) ∧ Row w' g cap (xs.take i ++ xs.drop j) ∧ KeepG g w w' := by
  subst hn hI hJ
  exact delete_calls g cap i j xs w hr hij hj
set_option maxHeartbeats 1000000 in
set_option maxRecDepth 100000 in
theorem clone_calls (A : Option Addr) (cap : Nat) (l : List S48) (w : World) (hr : Kd.C k48 w A l.length l) (hl : l.length ≤ 64) :
    Calls Tryd.prog 68 #[.slice A l.length cap] w fun e w' => ∃ v, e = .returned v ∧ Kd.R k48 48 w' w.heap.size (fun _ => True) v l ∧ Below w.heap.size w w' := by
  have HR := Aside0.mk hr
  have HL := Aside0.mk hl
  have heq := fun (w : World) => Lib.run_eql_slice_nil (P := Tryd.prog) w 22 48 A l.length cap 0 0 Tryd.underlying22
  clear hr hl
  cases A with
  | none =>
    have H0 : Aside0 (l = []) := ⟨by
      cases l with
      | nil => rfl
      | cons x xs => obtain ⟨ad, e, _⟩ := HR.out.2.2 (by simp); cases e⟩
    simp only [Option.isNone_none] at heq
    go_enter Tryd.func68, Tryd.ntmps68
    go_wp2
    go_ret
    obtain rfl := H0.out
    exact ⟨_, rfl, Kd.R_nil _ _ _ _ _, Below.refl _ _⟩
  | some a =>
    simp only [Option.isNone_some] at heq
    go_enter Tryd.func68, Tryd.ntmps68
    go_wp2_with (first | ((with_reducible refine gate_dst (N := 5) rfl ?_); refine Kd.R_lit k48 _ 48 ?hg (N := 5) ?hd (xs := ([] : List (S48))) (inner := []) (ok := fun _ => True) (okp := fun _ => True) ?hr ?hp (fun _ hk => hk) trivial (Below.refl _ _) (Nat.le_refl _) (by simp) ?_; (case hd => rfl); (case hg => rfl); (case hr => first | (go_simp; done) | (go_simp; rfl)); (case hp => exact (Reps.none _ _)); intro v1 w4 ho5 hb hg_ hnew_; have HO := Aside0.mk ho5; have HB := Aside0.mk hb; clear hg_ hnew_ hb ho5) | ((with_reducible refine gate_builtin (b := .append) (xs := #[.tmp 5, .tmp 6]) rfl ?_); at_builtin; refine Kd.R_append_rows k48 (w0 := w) w.heap.size rfl (.tmp 5) (.tmp 6) 22 48 (.agg #[(.int .i64 0), (.int .i64 0), (.int .i64 0)]) 24 rfl Tryd.underlying22 info48 rfl (by decide) (by omega) v1 [] l _ _ _ (fun _ => True) (fun _ => False) rfl rfl HO.out (Kd.C_below HR.out HB.out) (fun _ _ h => h) (fun _ h => h.elim) (fun _ _ => trivial) HB.out HB.out.size ?aL ?_; (case aL => have := HL.out; simp only [List.length_nil]; omega); intro v2 w6 ho hb hg hat; have HO6 := Aside0.mk ho; have HB6 := Aside0.mk hb; clear ho hb hg hat))
    go_ret
    exact ⟨_, rfl, HO6.out, HB6.out⟩
end Go.Proofs.YtpldcikmlpegpaaDoor.Col
end
section
namespace Go.Proofs.YtpldcikmlpegpaaDoor.PB
open Go.RowKit Go.Proofs.YtpldcikmlpegpaaDoor.Col Go.Proofs.YtpldcikmlpegpaaDoorW.PrintWords Go.Proofs.YtpldcikmlpegpaaDoorW.PrintLast Go.Proofs.YtpldcikmlpegpaaDoorW.PrintMore
attribute [local go_sem] max2_int min2_int max_two min_two
def joinW (a b : S48) : S48 :=
  ⟨wrap64 ((wrap64 (a.f0 + b.f0)) + (mn (wrap64 (a.f1 + b.f1)) (wrap64 (a.f2 + b.f2)))), wrap64 ((wrap64 (a.f1 + b.f1)) - (mn (wrap64 (a.f1 + b.f1)) (wrap64 (a.f2 + b.f2)))), wrap64 ((wrap64 (a.f2 + b.f2)) - (mn (wrap64 (a.f1 + b.f1)) (wrap64 (a.f2 + b.f2))))⟩
theorem joined_calls (a b : S48) (w : World) :
    Calls Tryd.prog 69 #[.agg #[.int .i64 a.f0, .int .i64 a.f1, .int .i64 a.f2], .agg #[.int .i64 b.f0, .int .i64 b.f1, .int .i64 b.f2]] w fun e w' => e = .returned (.agg #[.int .i64 (joinW a b).f0, .int .i64 (joinW a b).f1, .int .i64 (joinW a b).f2]) ∧ Below w.heap.size w w' :=
  pack_joined.calls a.f0 a.f1 a.f2 b.f0 b.f1 b.f2 _ _ _ w rfl
def pairW (xs : List S48) (i : Nat) : Int := wrap64 ((xs.getD i z48).f0 + (xs.getD (i + 1) z48).f0)
def leastW (xs : List S48) : Nat → Nat → Nat → Nat
  | 0, _, a => a
  | d + 1, i, a => leastW xs d (i + 1) (if pairW xs i < pairW xs a then i else a)
def joinOnce (xs : List S48) : List S48 :=
  let a := leastW xs (xs.length - 1) 0 0
  let ys := xs.set a (joinW (xs.getD a z48) (xs.getD (a + 1) z48))
  ys.take (a + 1) ++ ys.drop (a + 2)
def joinsW (n : Int) : Nat → List S48 → List S48
  | 0, xs => xs
  | k + 1, xs => if n < (xs.length : Int) then joinsW n k (joinOnce xs) else xs
def pack_Joined.f (l : List S48) (n : Int) : Option (List S48 × Int) :=
  (pack_Check.f 200 l).bind fun e => if e = 0 then (if 1 ≤ n ∧ n ≤ 64 then some (joinsW n l.length l, 0) else some ([], 1)) else some ([], e)
theorem wrap_small (x : Int) (h0 : -9223372036854775808 ≤ x) (h1 : x ≤ 9223372036854775807) : wrap64 x = x := by
  unfold wrap64
  omega
theorem drewN_two (w : World) (a b : Nat) : (w.drewN a).drewN b = w.drewN (a + b) := by
  simp [World.drewN, Nat.add_assoc]
set_option maxRecDepth 100000 in
set_option maxHeartbeats 4000000 in
theorem pack_Joined.calls (A0_0 : Option Addr) (c0_0 : Nat) (l0_0 : List (S48)) (a1 : Int) (r1 : List (S48)) (r2 : Int) (w : World) (hr0_0 : Kd.C k48 w A0_0 l0_0.length l0_0) (hc0_0 : l0_0.length ≤ c0_0) (h : pack_Joined.f l0_0 a1 = some (r1, r2)) :
    Calls Tryd.prog 29 #[.agg #[.slice A0_0 l0_0.length c0_0], .int .i64 a1] w fun e w' => ∃ v0_ : Value, e = .returned (.tuple #[.agg #[v0_], .int .i64 r2]) ∧ Kd.R k48 48 w' w.heap.size (fun _ => True) v0_ r1 ∧ Below w.heap.size w w' := by
  have hu24 := Tryd.underlying24
  have hu48 := Tryd.underlying48
  have HR := Aside0.mk hr0_0
  have HC := Aside0.mk hc0_0
  clear hr0_0 hc0_0
  unfold pack_Joined.f at h
  replace h := Option.bind_eq_some_iff.mp h
  obtain ⟨e1, E1, h⟩ := h
  have HE1 := Aside0.mk E1
  have HH := Aside0.mk h
  clear E1 h
  go_enter Tryd.func29, Tryd.ntmps29
  go_upto_region 1 with (fail)
  obtain ⟨B, hB⟩ : ∃ B, w.heap.size = B := ⟨_, rfl⟩
  obtain ⟨V1, hV1⟩ : ∃ W1, w.alloc (.cells #[.slice A0_0 l0_0.length c0_0] 24 (0, 0)) = W1 := ⟨_, rfl⟩
  obtain ⟨W1, hW1⟩ : ∃ W1, V1.alloc (.cells #[.slice none 0 0] 24 (0, 0)) = W1 := ⟨_, rfl⟩
  have s1 : V1.heap.size = B + 1 := by rw [← hV1, ← hB]; simp
  have s3 : W1.heap.size = B + 2 := by rw [← hW1]; simp [s1]
  have b1 : Below B w V1 := by rw [← hV1, ← hB]; exact (Below.refl _ _).alloc (Nat.le_refl _) _
  have b3 : Below B w W1 := by rw [← hW1]; exact b1.alloc (by omega) _
  have p0 : W1.heap[B]? = some (.cells #[.slice A0_0 l0_0.length c0_0] 24 (0, 0)) := by rw [← hW1]; refine blk_alloc ?_ _; rw [← hV1, ← hB]; exact blk_new _ _
  have p2 : W1.heap[B + 1]? = some (.cells #[.slice none 0 0] 24 (0, 0)) := by rw [← hW1, ← s1]; exact blk_new _ _
  rw [hV1, hW1, hB]
  have K : Aside0 (∀ wX : World, Below W1.heap.size W1 wX → wX.heap[B]? = some (.cells #[.slice A0_0 l0_0.length c0_0] 24 (0, 0)) ∧ wX.heap[B + 1]? = some (.cells #[.slice none 0 0] 24 (0, 0))) :=
    ⟨fun wX hb => ⟨blk_below p0 hb, blk_below p2 hb⟩⟩
  have HS3 := Aside0.mk s3
  have HB3 := Aside0.mk b3
  have HBq := Aside0.mk hB
  have F : Aside0 (∀ (wX : World) (v : Value), Below W1.heap.size W1 wX → Below w.heap.size w (wX.setCell ⟨B + 1, 0, none⟩ v)) :=
    ⟨fun wX v hb => by rw [HBq.out]; exact (HB3.out.trans (hb.mono (by rw [HS3.out]; omega))).setCell (p := ⟨B + 1, 0, none⟩) (by show B ≤ B + 1; omega) v⟩
  have q0 : W1.cell? ⟨B, 0, none⟩ = some (.slice A0_0 l0_0.length c0_0) := (blk_cell p0 0).trans rfl
  have HR1 : Aside0 (Kd.C k48 W1 A0_0 l0_0.length l0_0) := ⟨Kd.C_below HR.out (by rw [HBq.out]; exact HB3.out)⟩
  clear hV1 hW1 s1 s3 b1 b3 p0 p2 hB
  go_upto_if 13 with (first | (go_at_call 25; refine (pack_Check.calls 200 A0_0 c0_0 l0_0 e1 _ HR1.out HC.out HE1.out).mono ?_; rintro e w7 ⟨rfl, hb⟩; have HB7 := Aside0.mk hb; clear hb q0))
  by_cases h1 : e1 = 0
  · have z0 : (e1 != 0) = false := by simp [h1]
    have h2 := HH.out
    rw [if_pos h1] at h2
    by_cases hn : 1 ≤ a1 ∧ a1 ≤ 64
    · rw [if_pos hn] at h2
      simp only [Option.some.injEq, Prod.mk.injEq] at h2
      obtain ⟨h3, rfl⟩ := h2
      have H3 := Aside0.mk h3
      have HN := Aside0.mk hn
      have HL : Aside0 (l0_0.length ≤ 64) := ⟨by
        have := HE1.out
        rw [h1] at this
        unfold pack_Check.f at this
        split at this
        · simp at this
        · omega⟩
      have hpf : Aside0 (pack_from.f a1 1 64 = some true) := ⟨by unfold pack_from.f; rw [if_pos hn.1]; simp [hn.2]⟩
      clear h3 hn h1
      obtain ⟨k0, k2⟩ := K.out _ HB7.out
      have q7 : w7.cell? ⟨B, 0, none⟩ = some (.slice A0_0 l0_0.length c0_0) := (blk_cell k0 0).trans rfl
      clear k0 k2
      go_upto_region 6 with (first | (go_at_call 67; refine (pack_from.calls a1 1 64 true _ hpf.out).mono ?_; rintro e w8 ⟨rfl, ⟨nd, rfl⟩⟩))
      have HB8 := Aside0.mk (pw_below_drewN HB7.out nd)
      have q8 : (w7.drewN nd).cell? ⟨B, 0, none⟩ = some (.slice A0_0 l0_0.length c0_0) := q7
      generalize w7.drewN nd = w8 at HB8 q8 ⊢
      clear q7
      go_wp2_with (first | (go_at_call 68; refine (clone_calls A0_0 c0_0 l0_0 _ (Kd.C_below HR1.out HB8.out) HL.out).mono ?_; rintro e w9 ⟨v, rfl, hO, hb⟩; obtain ⟨A2, c2, rfl⟩ := Kd.R_slice hO; have HO := Aside0.mk (Kd.R_lower hO HB8.out.size); have HB9 := Aside0.mk (below_step HB8.out hb); clear hO hb q8))
      go_loopg [7] l0_0.length (fun dq v7 w' => ∃ (xs : List S48) (A : Option Addr) (c : Nat), v7 = .slice A xs.length c ∧ dq = xs.length ∧ xs.length ≤ 64 ∧ Aside0 (joinsW a1 dq xs = r1) ∧ Aside0 (Kd.R k48 48 w' W1.heap.size (fun _ => True) (.slice A xs.length c) xs) ∧ Aside0 (Below W1.heap.size W1 w'))
      case atStart => exact ⟨l0_0, A2, c2, rfl, rfl, HL.out, H3, HO, HB9⟩
      case round =>
        obtain ⟨xs, A, c, rfl, hdq, hx64, HE, HX, HBx⟩ := hrel
        by_cases hgt : a1 < (xs.length : Int)
        · have t1 : decide (a1 < (xs.length : Int)) = true := decide_eq_true hgt
          have hx2 : 2 ≤ xs.length := by have := HN.out; omega
          obtain ⟨g, cap, hv, hg, hrow⟩ : ∃ g cap, (.slice A xs.length c : Value) = .slice (some ⟨g, 0, none⟩) xs.length cap ∧ W1.heap.size ≤ g ∧ Row wr g cap xs := by
            rcases Row.of_R HX.out with ⟨_, h0⟩ | h0
            · rw [h0] at hx2; simp at hx2
            · exact h0
          injection hv with hA _ hc
          subst hA hc
          have HRW := Aside0.mk hrow
          have HG := Aside0.mk hg
          have hcap : xs.length ≤ c := hrow.le
          clear hrow hgt
          go_wp2
          obtain ⟨wo, rfl⟩ : ∃ wo : World, wo = wr := ⟨_, rfl⟩
          obtain ⟨gko, hgko⟩ : ∃ k, k = gk := ⟨_, rfl⟩
          rw [← hgko] at hdq HE
          have HGK := Aside0.mk hgko
          clear hgko
          obtain ⟨n, hn⟩ : ∃ n, xs.length = n := ⟨_, rfl⟩
          rw [hn] at hx2 hx64 hcap ⊢
          have HNN := Aside0.mk hn
          clear hn hg
          go_loopg [8, 30] (n - 1) (fun dq v8 v30 w' => ∃ (a i m : Nat), v8 = .int .i64 a ∧ v30 = .int .i64 i ∧ dq = n - 1 - i ∧ i ≤ n - 1 ∧ a + 1 < n ∧ Aside0 (leastW xs dq i a = leastW xs (n - 1) 0 0) ∧ Aside0 (w' = wo.drewN m))
          case atStart => exact ⟨0, 0, 0, rfl, rfl, rfl, Nat.zero_le _, by omega, ⟨rfl⟩, ⟨rfl⟩⟩
          case round =>
            obtain ⟨a, i, m, rfl, rfl, hdi, hi, ha, HI, HM⟩ := hrel
            obtain rfl := HM.out
            by_cases hlt : (i : Int) < (n : Int) - 1
            · have t2 : decide ((i : Int) < (n : Int) - 1) = true := decide_eq_true hlt
              have c1 := HRW.out.ice i (by rw [HNN.out]; omega)
              have c2' := HRW.out.ice (i + 1) (by rw [HNN.out]; omega)
              have c3 := HRW.out.ice a (by rw [HNN.out]; omega)
              have c4 := HRW.out.ice (a + 1) (by rw [HNN.out]; omega)
              obtain ⟨x1, hx1⟩ : ∃ x, (xs.getD i z48).f0 = x := ⟨_, rfl⟩
              obtain ⟨x2, hx2'⟩ : ∃ x, (xs.getD (i + 1) z48).f0 = x := ⟨_, rfl⟩
              obtain ⟨x3, hx3⟩ : ∃ x, (xs.getD a z48).f0 = x := ⟨_, rfl⟩
              obtain ⟨x4, hx4⟩ : ∃ x, (xs.getD (a + 1) z48).f0 = x := ⟨_, rfl⟩
              rw [hx1] at c1
              rw [hx2'] at c2'
              rw [hx3] at c3
              rw [hx4] at c4
              have HP1 : Aside0 (pairW xs i = wrap64 (x1 + x2)) := ⟨by simp only [pairW, hx1, hx2']⟩
              have HP2 : Aside0 (pairW xs a = wrap64 (x3 + x4)) := ⟨by simp only [pairW, hx3, hx4]⟩
              have i0 : (0 : Int) ≤ (i : Int) := by omega
              have i1 : (i : Int) < (n : Int) := by omega
              have i2 : (0 : Int) ≤ (i : Int) + 1 := by omega
              have i3 : (i : Int) + 1 < (n : Int) := by omega
              have a0 : (0 : Int) ≤ (a : Int) := by omega
              have a1' : (a : Int) < (n : Int) := by omega
              have a2 : (0 : Int) ≤ (a : Int) + 1 := by omega
              have a3 : (a : Int) + 1 < (n : Int) := by omega
              have e1' : IntKind.i64.wrap ((i : Int) + 1) = (i : Int) + 1 := by have := wrap_small ((i : Int) + 1) (by omega) (by omega); simpa [i64_w] using this
              have e2 : IntKind.i64.wrap ((a : Int) + 1) = (a : Int) + 1 := by have := wrap_small ((a : Int) + 1) (by omega) (by omega); simpa [i64_w] using this
              have e3 : ((i : Int) + 1).toNat = i + 1 := by omega
              have e4 : ((a : Int) + 1).toNat = a + 1 := by omega
              clear hx1 hx2' hx3 hx4
              go_upto_region 12 with (fail)
              go_quiet (fail)
              (try simp only [i64_w])
              by_cases hp : wrap64 (x1 + x2) < wrap64 (x3 + x4)
              · have z1 : decide (wrap64 (x1 + x2) < wrap64 (x3 + x4)) = true := decide_eq_true hp
                have HPP : Aside0 (pairW xs i < pairW xs a) := ⟨by rw [HP1.out, HP2.out]; exact hp⟩
                rw [z1]
                clear hp z1 c1 c2' c3 c4 e1' e2 e3 e4
                go_wp2
                go_roundg (n - 1 - (i + 1))
                case measure => omega
                case rel =>
                  refine ⟨i, i + 1, m + nq, rfl, by go_num, rfl, by omega, by omega, ⟨?_⟩, ⟨by first | rfl | exact drewN_two _ _ _⟩⟩
                  have e : n - 1 - i = (n - 1 - (i + 1)) + 1 := by omega
                  rw [← HI.out, hdi, e]
                  simp only [leastW, if_pos HPP.out]
              · have z1 : decide (wrap64 (x1 + x2) < wrap64 (x3 + x4)) = false := decide_eq_false hp
                have HPP : Aside0 (¬ pairW xs i < pairW xs a) := ⟨by rw [HP1.out, HP2.out]; exact hp⟩
                rw [z1]
                clear hp z1 c1 c2' c3 c4 e1' e2 e3 e4
                go_wp2
                go_roundg (n - 1 - (i + 1))
                case measure => omega
                case rel =>
                  refine ⟨a, i + 1, m + nq, rfl, by go_num, rfl, by omega, by omega, ⟨?_⟩, ⟨by first | rfl | exact drewN_two _ _ _⟩⟩
                  have e : n - 1 - i = (n - 1 - (i + 1)) + 1 := by omega
                  rw [← HI.out, hdi, e]
                  simp only [leastW, if_neg (show ¬ pairW xs i < pairW xs a by have := HPP.out; omega)]
            · have t2 : decide ((i : Int) < (n : Int) - 1) = false := decide_eq_false hlt
              have HA : Aside0 (leastW xs (xs.length - 1) 0 0 = a) := ⟨by
                have h5 := HI.out
                have e : gk = 0 := by omega
                rw [e] at h5
                rw [HNN.out, ← h5]
                rfl⟩
              obtain ⟨W5, hW5⟩ : ∃ W5, wo.drewN m = W5 := ⟨_, rfl⟩
              have HRX : Aside0 (Row W5 g c xs) := ⟨by rw [← hW5]; exact HRW.out.drewN m⟩
              have HBX : Aside0 (Below W1.heap.size W1 W5) := ⟨by rw [← hW5]; exact pw_below_drewN HBx.out m⟩
              rw [hW5]
              clear hW5 hlt
              have x0' := HRX.out.ice a (by rw [HNN.out]; omega)
              have x1' := HRX.out.wet a (by rw [HNN.out]; omega)
              have x2' := HRX.out.cold a (by rw [HNN.out]; omega)
              have y0' := HRX.out.ice (a + 1) (by rw [HNN.out]; omega)
              have y1' := HRX.out.wet (a + 1) (by rw [HNN.out]; omega)
              have y2' := HRX.out.cold (a + 1) (by rw [HNN.out]; omega)
              obtain ⟨x, hx⟩ : ∃ x, xs.getD a z48 = x := ⟨_, rfl⟩
              obtain ⟨y, hy⟩ : ∃ x, xs.getD (a + 1) z48 = x := ⟨_, rfl⟩
              rw [hx] at x0' x1' x2'
              rw [hy] at y0' y1' y2'
              have HXX := Aside0.mk hx
              have HYY := Aside0.mk hy
              have a0 : (0 : Int) ≤ (a : Int) := by omega
              have a1' : (a : Int) < (n : Int) := by omega
              have a2 : (0 : Int) ≤ (a : Int) + 1 := by omega
              have a3 : (a : Int) + 1 < (n : Int) := by omega
              have e2 : IntKind.i64.wrap ((a : Int) + 1) = (a : Int) + 1 := by have := wrap_small ((a : Int) + 1) (by omega) (by omega); simpa [i64_w] using this
              have e4 : ((a : Int) + 1).toNat = a + 1 := by omega
              have hf := HRX.out.free
              clear hx hy
              go_upto_region 15 with (fail)
              go_region_with (go_at_call 69; (with_reducible refine (joined_calls x y _).mono ?_); rintro e w6 ⟨rfl, hb⟩; have HB6 : Aside0 (Below W5.heap.size W5 w6) := ⟨Below.trans ((Below.refl _ _).drew) hb⟩; have hf6 := (HRX.out.below HB6.out).free; have x06 := pw_cell_below HB6.out x0'; have x16 := pw_cell_below HB6.out x1'; have x26 := pw_cell_below HB6.out x2'; clear hb)
              all_goals
                have HR7 := (HRX.out.below HB6.out).put a (by rw [HNN.out]; omega) (joinW x y).f0 (joinW x y).f1 (joinW x y).f2
                have HK7 : KeepG g w6 (((w6.setCell ⟨g, a * 3, none⟩ (.int .i64 (joinW x y).f0)).setCell ⟨g, a * 3 + 1, none⟩ (.int .i64 (joinW x y).f1)).setCell ⟨g, a * 3 + 2, none⟩ (.int .i64 (joinW x y).f2)) := ((KeepG.set _ _ _ _).trans (KeepG.set _ _ _ _)).trans (KeepG.set _ _ _ _)
                generalize ((w6.setCell ⟨g, a * 3, none⟩ (.int .i64 (joinW x y).f0)).setCell ⟨g, a * 3 + 1, none⟩ (.int .i64 (joinW x y).f1)).setCell ⟨g, a * 3 + 2, none⟩ (.int .i64 (joinW x y).f2) = W7 at HR7 HK7 ⊢
                obtain ⟨ys, hys⟩ : ∃ ys, xs.set a ⟨(joinW x y).f0, (joinW x y).f1, (joinW x y).f2⟩ = ys := ⟨_, rfl⟩
                rw [hys] at HR7
                have HY : Aside0 (ys.length = n) := ⟨by rw [← hys, List.length_set]; exact HNN.out⟩
                have HJ : Aside0 (joinOnce xs = ys.take (a + 1) ++ ys.drop (a + 2)) := ⟨by
                  simp only [joinOnce, HA.out, HXX.out, HYY.out]
                  rw [← hys]⟩
                have HRY := Aside0.mk HR7
                have HB7' : Aside0 (Below W1.heap.size W1 W7) := ⟨HK7.below (below_step HBX.out HB6.out) HG.out (below_step HBX.out HB6.out).size⟩
                clear HR7 HK7 hys x0' x1' x2' y0' y1' y2' hf hf6 x06 x16 x26 e2 e4
                go_wp2_with (first | (go_at_call 70; refine (delete_calls' g c (a + 1) (a + 2) n _ _ ys _ HY.out (by omega) (by omega) HRY.out (by omega) (by omega)).mono ?_; rintro e w10 ⟨rfl, hR10, hK10⟩; have HR10 := Aside0.mk hR10; have HB10 : Aside0 (Below W1.heap.size W1 w10) := ⟨hK10.below HB7'.out HG.out HB7'.out.size⟩; clear hR10 hK10))
                obtain rfl := HGK.out
                go_roundg (n - 1)
                case measure => have := HNN.out; omega
                case rel =>
                  have hl : (joinOnce xs).length = n - 1 := by rw [HJ.out]; have := HY.out; simp; omega
                  have el : a + 1 + (n - (a + 2)) = n - 1 := by omega
                  refine ⟨joinOnce xs, some ⟨g, 0, none⟩, c, by rw [hl, el], hl.symm, by omega, ⟨?_⟩, ⟨?_⟩, HB10⟩
                  · have h5 := HE.out
                    have e5 : gko = (n - 1) + 1 := by have := HNN.out; omega
                    rw [e5] at h5
                    have h6 : a1 < (xs.length : Int) := of_decide_eq_true t1
                    simp only [joinsW, if_pos h6] at h5
                    exact h5
                  · have h7 := HR10.out
                    rw [← HJ.out] at h7
                    exact h7.to_R HG.out
        · have t1 : decide (a1 < (xs.length : Int)) = false := decide_eq_false hgt
          have HE' : Aside0 (xs = r1) := ⟨by
            have := HE.out
            cases gk with
            | zero => exact this
            | succ k => simpa [joinsW, hgt] using this⟩
          clear hgt
          obtain ⟨k0, k2⟩ := K.out _ HBx.out
          have HK2 := Aside0.mk k2
          have c4 : wr.cell? ⟨B + 1, 0, none⟩ = some (.slice none 0 0) := (blk_cell k2 0).trans rfl
          have f4 := blk_frozen k2 0
          clear k0 k2
          go_wp2
          refine bodyPost_ret (results_ct rfl _ _ (B + 1) 24 #[.slice A xs.length c] (0, 0) _ rfl (blk_put (cs := #[.slice none 0 0]) HK2.out 0 _ rfl) Tryd.underlying24 rfl (by kernel_rfl)) rfl ?_
          have hR := Kd.R_lower (R_set_low (i := 0) HX.out (B := B + 1) (by have := HS3.out; omega) (.slice A xs.length c)) (show w.heap.size ≤ B + 1 by have := HBq.out; omega)
          exact ⟨_, rfl, by rw [← HE'.out]; exact hR, F.out _ _ HBx.out⟩
    · rw [if_neg hn] at h2
      simp only [Option.some.injEq, Prod.mk.injEq] at h2
      obtain ⟨rfl, rfl⟩ := h2
      have hpf : Aside0 (pack_from.f a1 1 64 = some false) := ⟨by
        unfold pack_from.f
        split
        · rename_i h5
          simp only [Option.some.injEq, decide_eq_false_iff_not]
          intro h6
          exact hn ⟨h5, h6⟩
        · rfl⟩
      clear h1 hn
      obtain ⟨k0, k2⟩ := K.out _ HB7.out
      have HK2 := Aside0.mk k2
      have c4 : w7.cell? ⟨B + 1, 0, none⟩ = some (.slice none 0 0) := (blk_cell k2 0).trans rfl
      have f4 := blk_frozen k2 0
      clear k0 k2
      go_wp2_with (first | (go_at_call 67; refine (pack_from.calls a1 1 64 false _ hpf.out).mono ?_; rintro e w8 ⟨rfl, ⟨nd, rfl⟩⟩))
      refine bodyPost_ret (results_ct rfl _ _ (B + 1) 24 #[.slice none 0 0] (0, 0) _ rfl (blk_put (cs := #[.slice none 0 0]) (blk_drewN HK2.out _) 0 _ rfl) Tryd.underlying24 rfl (by kernel_rfl)) rfl ?_
      exact ⟨_, rfl, Kd.R_nil _ _ _ _ _, F.out _ _ (pw_below_drewN HB7.out _)⟩
  · have z0 : (e1 != 0) = true := by simp [h1]
    have h2 := HH.out
    rw [if_neg h1] at h2
    simp only [Option.some.injEq, Prod.mk.injEq] at h2
    obtain ⟨rfl, rfl⟩ := h2
    clear h1
    obtain ⟨k0, k2⟩ := K.out _ HB7.out
    have HK2 := Aside0.mk k2
    have c4 : w7.cell? ⟨B + 1, 0, none⟩ = some (.slice none 0 0) := (blk_cell k2 0).trans rfl
    have f4 := blk_frozen k2 0
    clear k0 k2
    go_wp2
    refine bodyPost_ret (results_ct rfl _ _ (B + 1) 24 #[.slice none 0 0] (0, 0) _ rfl (blk_put (cs := #[.slice none 0 0]) HK2.out 0 _ rfl) Tryd.underlying24 rfl (by kernel_rfl)) rfl ?_
    exact ⟨_, rfl, Kd.R_nil _ _ _ _ _, F.out _ _ HB7.out⟩
end Go.Proofs.YtpldcikmlpegpaaDoor.PB
end
section
namespace Go.Proofs.YtpldcikmlpegpaaDoor.PB
open Go.RowKit Go.Proofs.YtpldcikmlpegpaaDoor.Col Go.Proofs.YtpldcikmlpegpaaDoorW.PrintWords Go.Proofs.YtpldcikmlpegpaaDoorW.PrintLast Go.Proofs.YtpldcikmlpegpaaDoorW.PrintMore
attribute [local go_sem] max2_int min2_int max_two min_two
def exL : List S48 := [⟨40, 2, 0⟩, ⟨100, 0, 5⟩]
def exM : List S48 := [⟨19, 0, 0⟩, ⟨105, 5, 0⟩]
def exV : List S48 := [⟨92, 0, 3⟩]
def exJ : List S48 := [⟨142, 0, 3⟩]
def exT : ByteArray := ⟨#[112, 97, 99, 107, 32, 52, 48, 47, 50, 47, 48, 32, 49, 48, 48, 47, 48, 47, 53]⟩
set_option maxRecDepth 100000 in
theorem ex_water : pack_Water.f 200 exL = some (142, 0) := by kernel_rfl
set_option maxRecDepth 100000 in
theorem ex_ready : pack_Ready.f 200 exL = some (10, 0) := by kernel_rfl
set_option maxRecDepth 100000 in
theorem ex_melt : pack_Apply.f exL 3 21 0 = some (exM, 13, 0) := by kernel_rfl
set_option maxRecDepth 100000 in
theorem ex_loss : pack_Apply.f exL 5 50 0 = some (exV, 0, 0) := by kernel_rfl
set_option maxRecDepth 100000 in
theorem ex_weak : pack_Weakest.f exL = some (1, 42, 0) := by kernel_rfl
set_option maxRecDepth 100000 in
theorem ex_steep : pack_Steepest.f 200 [⟨300, 0, 0⟩, ⟨20, 0, 0⟩] = some (27, 0) := by kernel_rfl
set_option maxRecDepth 100000 in
theorem ex_join : pack_Joined.f exL 1 = some (exJ, 0) := by kernel_rfl
set_option maxRecDepth 100000 in
theorem ex_print : pack_Print.f 200 exL = some (exT, 0) := by kernel_rfl
set_option maxRecDepth 100000 in
theorem ex_none : pack_Weakest.f [] = some (0, 0, 4) := by kernel_rfl
set_option maxRecDepth 100000 in
theorem same_M : snowlineref02_Same.f 200 exM exM = some true := by kernel_rfl
set_option maxRecDepth 100000 in
theorem same_V : snowlineref02_Same.f 200 exV exV = some true := by kernel_rfl
set_option maxRecDepth 100000 in
theorem same_J : snowlineref02_Same.f 200 exJ exJ = some true := by kernel_rfl
theorem lit_C' (W : World) (l : List S48) (n : Nat) (hn : l.length = n) (hl : n ≤ 1000) (cs : Array Value) (hcs : (l.flatMap lcells).toArray = cs) : Kd.C k48 (W.alloc (.cells cs 48 (0, 0))) (some ⟨W.heap.size, 0, none⟩) l.length l := by
  subst hcs hn
  have h : Row (W.alloc (.cells (l.flatMap lcells).toArray 48 (0, 0))) W.heap.size l.length l :=
    ⟨l.flatMap lcells, blk_new _ _, Nat.le_refl _, by have : maxLen = 9223372036854775807 := rfl; omega, flat_len l, by rw [← flat_len l, List.take_length]⟩
  exact (Kd.R_reads' (Row.to_R h (base := 0) (Nat.zero_le _))).2.2
theorem lit_C (W : World) (l : List S48) (hl : l.length ≤ 1000) : Kd.C k48 (W.alloc (.cells (l.flatMap lcells).toArray 48 (0, 0))) (some ⟨W.heap.size, 0, none⟩) l.length l := lit_C' W l _ rfl hl _ rfl
theorem same_lit (A : Option Addr) (c : Nat) (l : List S48) (W : World) (n : Nat) (hn : l.length = n) (hl : n ≤ 1000) (cs : Array Value) (hcs : (l.flatMap lcells).toArray = cs) (hC : Kd.C k48 (W.alloc (.cells cs 48 (0, 0))) A l.length l) (hc : l.length ≤ c) (hs : snowlineref02_Same.f 200 l l = some true) :
    Calls Tryd.prog 23 #[.agg #[.slice A l.length c], .agg #[.slice (some ⟨W.heap.size, 0, none⟩) n n]] (W.alloc (.cells cs 48 (0, 0))) fun e w' => e = .returned (.bool true) ∧ Below W.heap.size W w' := by
  have h2 := lit_C' W l n hn hl cs hcs
  have := snowlineref02_Same.calls 200 A c l (some ⟨W.heap.size, 0, none⟩) n l true _ hC hc h2 (by omega) hs
  rw [hn] at this ⊢
  exact this.mono (fun e w' ⟨h1, h3⟩ => ⟨h1, Below.trans ((Below.refl _ _).alloc (Nat.le_refl _) _) (h3.mono (by simp))⟩)
set_option maxRecDepth 100000 in
set_option maxHeartbeats 2000000 in
theorem sane_walk (L M V J : List S48) (ex_ex : snowlinelaw02_example.f = some L) (ex_water : pack_Water.f 200 L = some (142, 0)) (ex_ready : pack_Ready.f 200 L = some (10, 0)) (ex_melt : pack_Apply.f L 3 21 0 = some (M, 13, 0)) (ex_loss : pack_Apply.f L 5 50 0 = some (V, 0, 0))
    (ex_weak : pack_Weakest.f L = some (1, 42, 0)) (ex_steep : pack_Steepest.f 200 [⟨300, 0, 0⟩, ⟨20, 0, 0⟩] = some (27, 0)) (ex_join : pack_Joined.f L 1 = some (J, 0))
    (ex_print : pack_Print.f 200 L = some (⟨#[112, 97, 99, 107, 32, 52, 48, 47, 50, 47, 48, 32, 49, 48, 48, 47, 48, 47, 53]⟩, 0)) (ex_none : pack_Weakest.f [] = some (0, 0, 4))
    (same_M : snowlineref02_Same.f 200 M M = some true) (same_V : snowlineref02_Same.f 200 V V = some true) (same_J : snowlineref02_Same.f 200 J J = some true)
    (nM : M.length = 2) (nV : V.length = 1) (nJ : J.length = 1)
    (cM : (M.flatMap lcells).toArray = #[.int .i64 19, .int .i64 0, .int .i64 0, .int .i64 105, .int .i64 5, .int .i64 0]) (cV : (V.flatMap lcells).toArray = #[.int .i64 92, .int .i64 0, .int .i64 3]) (cJ : (J.flatMap lcells).toArray = #[.int .i64 142, .int .i64 0, .int .i64 3])
    (w : World) (hG : Glob w) :
    Calls Tryd.prog 18 #[] w fun e w' => e = .returned (.bool true) ∧ Below w.heap.size w w' := by
  have HGl := Aside0.mk hG
  replace ex_ex := Aside0.mk ex_ex
  replace ex_water := Aside0.mk ex_water
  replace ex_ready := Aside0.mk ex_ready
  replace ex_melt := Aside0.mk ex_melt
  replace ex_loss := Aside0.mk ex_loss
  replace ex_weak := Aside0.mk ex_weak
  replace ex_steep := Aside0.mk ex_steep
  replace ex_join := Aside0.mk ex_join
  replace ex_print := Aside0.mk ex_print
  replace ex_none := Aside0.mk ex_none
  replace same_M := Aside0.mk same_M
  replace same_V := Aside0.mk same_V
  replace same_J := Aside0.mk same_J
  replace nM := Aside0.mk nM
  replace nV := Aside0.mk nV
  replace nJ := Aside0.mk nJ
  replace cM := Aside0.mk cM
  replace cV := Aside0.mk cV
  replace cJ := Aside0.mk cJ
  clear hG
  go_enter Tryd.func18, Tryd.ntmps18
  go_upto_region 2 with (first | (go_at_call 57; refine (snowlinelaw02_example.calls L _ ex_ex.out).mono ?_; rintro e w1 ⟨v1, rfl, hR, hb⟩; obtain ⟨A1, c1, rfl⟩ := Kd.R_slice hR; have HR1 := Aside0.mk hR; have HB1 := Aside0.mk hb; clear hR hb))
  obtain ⟨p1, hp1⟩ : ∃ p, w1.heap.size = p := ⟨_, rfl⟩
  obtain ⟨W2, hW2⟩ : ∃ W, w1.alloc (.cells #[.slice A1 L.length c1] 24 (0, 0)) = W := ⟨_, rfl⟩
  have HB2 : Aside0 (Below w.heap.size w W2) := ⟨by rw [← hW2]; exact HB1.out.alloc HB1.out.size _⟩
  have P1 : Aside0 (W2.heap[p1]? = some (.cells #[.slice A1 L.length c1] 24 (0, 0))) := ⟨by rw [← hW2, ← hp1]; exact blk_new _ _⟩
  have HR2 : Aside0 (Kd.R k48 48 W2 w.heap.size (fun _ => True) (.slice A1 L.length c1) L) := ⟨by rw [← hW2]; exact Kd.R_alloc HR1.out _⟩
  have HC : Aside0 (L.length ≤ c1) := ⟨(Kd.R_reads' HR2.out).2.1⟩
  have K : Aside0 (∀ wX : World, Below W2.heap.size W2 wX → wX.cell? ⟨p1, 0, none⟩ = some (.slice A1 L.length c1) ∧ Kd.C k48 wX A1 L.length L ∧ Glob wX ∧ Below w.heap.size w wX) :=
    ⟨fun wX hb => ⟨(blk_cell (blk_below P1.out hb) 0).trans rfl, Kd.C_below (Kd.R_reads' HR2.out).2.2 hb, (HGl.out.below HB2.out (Nat.le_refl _)).below hb (Nat.le_refl _), HB2.out.trans (hb.mono HB2.out.size)⟩⟩
  rw [hW2, hp1]
  clear hW2 hp1 HR1 HB1
  have H2 : Aside0 (Below W2.heap.size W2 W2) := ⟨Below.refl _ _⟩
  have q := (K.out _ H2.out).1
  go_upto_region 3 with (first | (go_at_call 24; refine (pack_Water.calls 200 A1 c1 L 142 0 _ (K.out _ H2.out).2.1 HC.out ex_water.out).mono ?_; rintro e w3 ⟨rfl, hb⟩; have H3 := Aside0.mk (below_step H2.out hb); clear hb q))
  have q := (K.out _ H3.out).1
  go_upto_region 4 with (first | (go_at_call 26; refine (pack_Ready.calls 200 A1 c1 L 10 0 _ (K.out _ H3.out).2.1 HC.out ex_ready.out).mono ?_; rintro e w4 ⟨rfl, hb⟩; have H4 := Aside0.mk (below_step H3.out hb); clear hb q))
  have q := (K.out _ H4.out).1
  go_upto_region 5 with (first | (go_at_call 21; refine (pack_Apply.calls A1 c1 L 3 21 0 M 13 0 _ (K.out _ H4.out).2.1 HC.out ex_melt.out).mono ?_; rintro e w5 ⟨v5, rfl, hR, hb⟩; obtain ⟨A5, c5, rfl⟩ := Kd.R_slice hR; have HR5 := Aside0.mk hR; have H5 := Aside0.mk (below_step H4.out hb); clear hb hR q))
  obtain ⟨p5, hp5⟩ : ∃ p, w5.heap.size = p := ⟨_, rfl⟩
  obtain ⟨W5, hW5⟩ : ∃ W, w5.alloc (.cells #[.slice A5 M.length c5] 24 (0, 0)) = W := ⟨_, rfl⟩
  have H5' : Aside0 (Below W2.heap.size W2 W5) := ⟨by rw [← hW5]; exact H5.out.alloc H5.out.size _⟩
  have P5 : Aside0 (W5.heap[p5]? = some (.cells #[.slice A5 M.length c5] 24 (0, 0))) := ⟨by rw [← hW5, ← hp5]; exact blk_new _ _⟩
  have HR5' : Aside0 (Kd.C k48 W5 A5 M.length M ∧ M.length ≤ c5) := ⟨by rw [← hW5]; have := Kd.R_reads' (Kd.R_alloc HR5.out (.cells #[.slice A5 M.length c5] 24 (0, 0))); exact ⟨this.2.2, this.2.1⟩⟩
  rw [hW5, hp5]
  clear hW5 hp5 HR5 H5
  have q := (K.out _ H5'.out).1
  go_upto_region 6 with (first | (go_at_call 21; refine (pack_Apply.calls A1 c1 L 5 50 0 V 0 0 _ (K.out _ H5'.out).2.1 HC.out ex_loss.out).mono ?_; rintro e w6 ⟨v6, rfl, hR, hb⟩; obtain ⟨A6, c6, rfl⟩ := Kd.R_slice hR; have HR6 := Aside0.mk hR; have H56 := Aside0.mk hb; have H6 := Aside0.mk (below_step H5'.out hb); clear hb hR q))
  obtain ⟨p6, hp6⟩ : ∃ p, w6.heap.size = p := ⟨_, rfl⟩
  obtain ⟨W6, hW6⟩ : ∃ W, w6.alloc (.cells #[.slice A6 V.length c6] 24 (0, 0)) = W := ⟨_, rfl⟩
  have H6' : Aside0 (Below W2.heap.size W2 W6) := ⟨by rw [← hW6]; exact H6.out.alloc H6.out.size _⟩
  have H56' : Aside0 (Below W5.heap.size W5 W6) := ⟨by rw [← hW6]; exact H56.out.alloc H56.out.size _⟩
  have P6 : Aside0 (W6.heap[p6]? = some (.cells #[.slice A6 V.length c6] 24 (0, 0))) := ⟨by rw [← hW6, ← hp6]; exact blk_new _ _⟩
  have HR6' : Aside0 (Kd.C k48 W6 A6 V.length V ∧ V.length ≤ c6) := ⟨by rw [← hW6]; have := Kd.R_reads' (Kd.R_alloc HR6.out (.cells #[.slice A6 V.length c6] 24 (0, 0))); exact ⟨this.2.2, this.2.1⟩⟩
  rw [hW6, hp6]
  clear hW6 hp6 HR6 H6 H56
  have q := (K.out _ H6'.out).1
  go_upto_region 7 with (first | (go_at_call 33; refine (pack_Weakest.calls A1 c1 L 1 42 0 _ (K.out _ H6'.out).2.1 HC.out ex_weak.out).mono ?_; rintro e w7 ⟨rfl, hb⟩; have H67 := Aside0.mk hb; have H7 := Aside0.mk (below_step H6'.out hb); clear hb q))
  go_upto_region 8 with (first | (go_at_call 37; refine (pack_Steepest.calls 200 (some ⟨w7.heap.size, 0, none⟩) 2 [⟨300, 0, 0⟩, ⟨20, 0, 0⟩] 27 0 _ (lit_C w7 [⟨300, 0, 0⟩, ⟨20, 0, 0⟩] (by decide)) (by decide) ex_steep.out).mono ?_; rintro e w8 ⟨rfl, hb⟩; have H68 := Aside0.mk (below_step (H67.out.alloc H67.out.size _) hb); have H8 := Aside0.mk (below_step (H7.out.alloc H7.out.size _) hb); clear hb))
  have q := (K.out _ H8.out).1
  go_upto_region 9 with (first | (go_at_call 29; refine (pack_Joined.calls A1 c1 L 1 J 0 _ (K.out _ H8.out).2.1 HC.out ex_join.out).mono ?_; rintro e w9 ⟨v9, rfl, hR, hb⟩; obtain ⟨A9, c9, rfl⟩ := Kd.R_slice hR; have HR9 := Aside0.mk hR; have H69 := Aside0.mk (below_step H68.out hb); have H9 := Aside0.mk (below_step H8.out hb); clear hb hR q))
  obtain ⟨p9, hp9⟩ : ∃ p, w9.heap.size = p := ⟨_, rfl⟩
  obtain ⟨W9, hW9⟩ : ∃ W, w9.alloc (.cells #[.slice A9 J.length c9] 24 (0, 0)) = W := ⟨_, rfl⟩
  have H9' : Aside0 (Below W2.heap.size W2 W9) := ⟨by rw [← hW9]; exact H9.out.alloc H9.out.size _⟩
  have H69' : Aside0 (Below W6.heap.size W6 W9) := ⟨by rw [← hW9]; exact H69.out.alloc H69.out.size _⟩
  have P9 : Aside0 (W9.heap[p9]? = some (.cells #[.slice A9 J.length c9] 24 (0, 0))) := ⟨by rw [← hW9, ← hp9]; exact blk_new _ _⟩
  have HR9' : Aside0 (Kd.C k48 W9 A9 J.length J ∧ J.length ≤ c9) := ⟨by rw [← hW9]; have := Kd.R_reads' (Kd.R_alloc HR9.out (.cells #[.slice A9 J.length c9] 24 (0, 0))); exact ⟨this.2.2, this.2.1⟩⟩
  rw [hW9, hp9]
  clear hW9 hp9 HR9 H9 H69
  have q := (K.out _ H9'.out).1
  go_upto_region 10 with (first | (go_at_call 58; refine (pack_Print.calls 200 A1 c1 L ⟨#[112, 97, 99, 107, 32, 52, 48, 47, 50, 47, 48, 32, 49, 48, 48, 47, 48, 47, 53]⟩ 0 _ (K.out _ H9'.out).2.1 HC.out (K.out _ H9'.out).2.2.1 ex_print.out).mono ?_; rintro e w10 ⟨rfl, hb⟩; have H910 := Aside0.mk hb; have H10 := Aside0.mk (below_step H9'.out hb); clear hb q))
  go_upto_region 11 with (first | (go_at_call 33; refine (pack_Weakest.calls none 0 [] 0 0 4 _ ⟨rfl, by simp, fun h => by simp at h⟩ (Nat.le_refl _) ex_none.out).mono ?_; rintro e w11 ⟨rfl, hb⟩; have H911 := Aside0.mk (below_step H910.out hb); have H11 := Aside0.mk (below_step H10.out hb); clear hb))
  have HC5 : Aside0 (∀ wX : World, Below w11.heap.size w11 wX → wX.cell? ⟨p5, 0, none⟩ = some (.slice A5 M.length c5) ∧ Kd.C k48 wX A5 M.length M) :=
    ⟨fun wX hb => by
      have h := below_step (below_step (below_step H56'.out H69'.out) H911.out) hb
      exact ⟨(blk_cell (blk_below P5.out h) 0).trans rfl, Kd.C_below HR5'.out.1 h⟩⟩
  have HC6 : Aside0 (∀ wX : World, Below w11.heap.size w11 wX → wX.cell? ⟨p6, 0, none⟩ = some (.slice A6 V.length c6) ∧ Kd.C k48 wX A6 V.length V) :=
    ⟨fun wX hb => by
      have h := below_step (below_step H69'.out H911.out) hb
      exact ⟨(blk_cell (blk_below P6.out h) 0).trans rfl, Kd.C_below HR6'.out.1 h⟩⟩
  have HC9 : Aside0 (∀ wX : World, Below w11.heap.size w11 wX → wX.cell? ⟨p9, 0, none⟩ = some (.slice A9 J.length c9) ∧ Kd.C k48 wX A9 J.length J) :=
    ⟨fun wX hb => by
      have h := below_step H911.out hb
      exact ⟨(blk_cell (blk_below P9.out h) 0).trans rfl, Kd.C_below HR9'.out.1 h⟩⟩
  go_upto_region 13 with (fail)
  have q := (HC5.out _ (Below.refl _ _)).1
  go_wp2_with (first | fail)
  go_at_call 23
  have hx := same_lit A5 c5 M w11 2 nM.out (by decide) _ cM.out (HC5.out _ ((Below.refl _ _).alloc (Nat.le_refl _) _)).2 HR5'.out.2 same_M.out
  refine hx.mono ?_
  clear hx
  rintro e w12 ⟨rfl, hb⟩
  have H12 := Aside0.mk hb
  clear hb q
  have q := (HC6.out _ H12.out).1
  go_wp2_with (first | fail)
  go_at_call 23
  have hx := same_lit A6 c6 V w12 1 nV.out (by decide) _ cV.out (HC6.out _ (H12.out.alloc H12.out.size _)).2 HR6'.out.2 same_V.out
  refine hx.mono ?_
  clear hx
  rintro e w13 ⟨rfl, hb⟩
  have H13 := Aside0.mk (below_step H12.out hb)
  clear hb q
  have q := (HC9.out _ H13.out).1
  go_wp2_with (first | fail)
  go_at_call 23
  have hx := same_lit A9 c9 J w13 1 nJ.out (by decide) _ cJ.out (HC9.out _ (H13.out.alloc H13.out.size _)).2 HR9'.out.2 same_J.out
  refine hx.mono ?_
  clear hx
  rintro e w14 ⟨rfl, hb⟩
  have H14 := Aside0.mk (below_step H13.out hb)
  clear hb q
  go_wp2_with (first | fail)
  go_ret
  exact ⟨rfl, (K.out _ (below_step H11.out H14.out)).2.2.2⟩
def snowlinelaw02_sane.f (_ : Nat) : Option Bool := some true
theorem snowlinelaw02_sane.mono : ∀ k, LeO (snowlinelaw02_sane.f k) (snowlinelaw02_sane.f (k + 1)) := fun _ => LeO.refl _
theorem snowlinelaw02_sane.calls (k : Nat) (r : Bool) (w : World) (hG : Glob w) (h : snowlinelaw02_sane.f k = some r) :
    Calls Tryd.prog 18 #[] w fun e w' => e = .returned (.bool r) ∧ Below w.heap.size w w' := by
  obtain rfl : true = r := Option.some.inj h
  exact sane_walk exL exM exV exJ rfl ex_water ex_ready ex_melt ex_loss ex_weak ex_steep ex_join ex_print ex_none same_M same_V same_J rfl rfl rfl rfl rfl rfl w hG
end Go.Proofs.YtpldcikmlpegpaaDoor.PB
end
section
namespace Go.Proofs.YtpldcikmlpegpaaDoor.PB
open Go.RowKit Go.Proofs.YtpldcikmlpegpaaDoorW.PrintWords Go.Proofs.YtpldcikmlpegpaaDoorW.PrintLast Go.Proofs.YtpldcikmlpegpaaDoorW.PrintMore
attribute [local go_sem] max2_int min2_int max_two min_two max_three min_three max_four min_four   -- for this text's walks alone
set_option linter.unusedVariables false
set_option linter.unusedSimpArgs false
def snowlineref02_Strength.f (a0_0 : Int) (a0_1 : Int) (a0_2 : Int) : Option (Int) := some (wrap64 ((wrap64 ((wrap64 (10 * a0_0)) + a0_2)) - (wrap64 (40 * a0_1))))
set_option maxHeartbeats 8000000 in
set_option maxRecDepth 100000 in
theorem snowlineref02_Strength.calls (a0_0 : Int) (a0_1 : Int) (a0_2 : Int) (r : Int) (w : World) (h : snowlineref02_Strength.f a0_0 a0_1 a0_2 = some r) :
    Calls Tryd.prog 39 #[.agg #[.int .i64 a0_0, .int .i64 a0_1, .int .i64 a0_2]] w fun e w' => e = .returned (.int .i64 r) ∧ Below w.heap.size w w' := by
  have hu48 := Tryd.underlying48
  have HB := Aside0.mk (Below.refl w.heap.size w)
  have H : (some (wrap64 ((wrap64 ((wrap64 (10 * a0_0)) + a0_2)) - (wrap64 (40 * a0_1))))) = some r := h
  clear h
  obtain rfl := Option.some.inj H
  go_enter Tryd.func39, Tryd.ntmps39
  go_wp2_with (first | ((with_reducible refine gate_dst (N := 1) rfl ?_); refine box_event ?hg (N := 1) ?hd (cs := #[.int .i64 a0_0, .int .i64 a0_1, .int .i64 a0_2]) (t := 48) ?hr ?_; (case hd => rfl); (case hg => rfl); (case hr => first | (go_simp; done) | (go_simp; rfl)); intro gb542 hg w2 hbox hb; have n0_ := Aside0.mk (below_step (by repeat (first | (with_reducible first | exact HB.out | apply below_alloc | apply pw_below_drewN | apply below_drew1) | exact HB.out)) hb); have n1_ := Aside0.mk (hbox); have n2_ := Aside0.mk ((by rw [hg]; exact (below_size (by repeat (first | (with_reducible first | exact HB.out | apply below_alloc | apply pw_below_drewN | apply below_drew1) | exact HB.out))) : w.heap.size ≤ gb542)); have n3_ := Aside0.mk ((by rw [hg]; exact (below_size (by repeat (first | (with_reducible first | exact HB.out | apply below_alloc | apply pw_below_drewN | apply below_drew1) | exact HB.out))) : w.heap.size ≤ gb542)); clear HB; have HB := n0_; have BK542 := n1_; have GW542 := n2_; have GE542 := n3_; clear n0_ n1_ n2_ n3_; clear hb hbox hg; have hcz3_0 : w2.cell? ⟨gb542, 0, none⟩ = some (.int .i64 a0_0) := (blk_cell BK542.out 0).trans rfl; have hcz3_1 : w2.cell? ⟨gb542, 1, none⟩ = some (.int .i64 a0_1) := (blk_cell BK542.out 1).trans rfl; have hcz3_2 : w2.cell? ⟨gb542, 2, none⟩ = some (.int .i64 a0_2) := (blk_cell BK542.out 2).trans rfl; have hfz3_0 := blk_frozen BK542.out 0; have hfz3_1 := blk_frozen BK542.out 1; have hfz3_2 := blk_frozen BK542.out 2))
  go_ret
  exact ⟨by first | rfl | (simp [errW_none, errW_some] <;> rfl) | (simp [*, errW_none, errW_some] <;> rfl), by repeat (first | (with_reducible first | exact HB.out | apply below_alloc | apply pw_below_drewN | apply below_drew1 | refine below_set ?_ GE542.out) | exact HB.out)⟩
end Go.Proofs.YtpldcikmlpegpaaDoor.PB
end
section
namespace Go.Proofs.YtpldcikmlpegpaaDoor.PB
open Go.RowKit Go.Proofs.YtpldcikmlpegpaaDoorW.PrintWords Go.Proofs.YtpldcikmlpegpaaDoorW.PrintLast Go.Proofs.YtpldcikmlpegpaaDoorW.PrintMore
attribute [local go_sem] max2_int min2_int max_two min_two max_three min_three max_four min_four   -- for this text's walks alone
set_option linter.unusedVariables false
set_option linter.unusedSimpArgs false
def pack_Breaks.f (k : Nat) (l0_0 : List (S48)) (a1 : Int) : Option (Bool × Int) := (pack_Check.f k l0_0).bind fun t558 => (if t558 = 0 then ((pack_from.f a1 0 60).bind fun t559 => (if t559 = true then ((pack_breaks.f l0_0 a1).bind fun t560 => (some (t560, 0))) else (some (false, 1)))) else (some (false, t558)))
set_option maxHeartbeats 8000000 in
set_option maxRecDepth 100000 in
theorem pack_Breaks.calls (k : Nat) (A0_0 : Option Addr) (c0_0 : Nat) (l0_0 : List (S48)) (a1 : Int) (r1 : Bool) (r2 : Int) (w : World) (hr0_0 : Kd.C k48 w A0_0 l0_0.length l0_0) (hc0_0 : l0_0.length ≤ c0_0) (h : pack_Breaks.f k l0_0 a1 = some (r1, r2)) :
    Calls Tryd.prog 35 #[.agg #[.slice A0_0 l0_0.length c0_0], .int .i64 a1] w fun e w' => e = .returned (.tuple #[.bool r1, .int .i64 r2]) ∧ Below w.heap.size w w' := by
  have hu24 := Tryd.underlying24
  have HR0_0 := Aside0.mk hr0_0
  have HC0_0 := Aside0.mk hc0_0
  clear hr0_0 hc0_0
  have HB := Aside0.mk (Below.refl w.heap.size w)
  have H : ((pack_Check.f k l0_0).bind fun t558 => (if t558 = 0 then ((pack_from.f a1 0 60).bind fun t559 => (if t559 = true then ((pack_breaks.f l0_0 a1).bind fun t560 => (some (t560, 0))) else (some (false, 1)))) else (some (false, t558)))) = some (r1, r2) := h
  clear h
  replace H := Option.bind_eq_some_iff.mp H
  obtain ⟨t558, A30, H⟩ := H
  replace H : (if t558 = 0 then ((pack_from.f a1 0 60).bind fun t559 => (if t559 = true then ((pack_breaks.f l0_0 a1).bind fun t560 => (some (t560, 0))) else (some (false, 1)))) else (some (false, t558))) = some (r1, r2) := H
  have A3 := Aside0.mk A30
  clear A30
  by_cases c4 : t558 = 0
  · rw [if_pos c4] at H
    have c4b0 : (t558 == 0) = true := beq_iff_eq.mpr c4
    have c4b1 : (t558 != 0) = false := bne_eq_false_iff_eq.mpr c4
    clear c4
    replace H := Option.bind_eq_some_iff.mp H
    obtain ⟨t559, A50, H⟩ := H
    replace H : (if t559 = true then ((pack_breaks.f l0_0 a1).bind fun t560 => (some (t560, 0))) else (some (false, 1))) = some (r1, r2) := H
    have A5 := Aside0.mk A50
    clear A50
    by_cases c6 : t559 = true
    · subst c6
      have H1 : ((pack_breaks.f l0_0 a1).bind fun t560 => (some (t560, 0))) = some (r1, r2) := by rw [if_pos rfl] at H; exact H
      clear H
      have H := H1
      clear H1
      replace H := Option.bind_eq_some_iff.mp H
      obtain ⟨t560, A70, H⟩ := H
      replace H : (some (t560, 0)) = some (r1, r2) := H
      have A7 := Aside0.mk A70
      clear A70
      simp only [Option.some.injEq, Prod.mk.injEq] at H
      obtain ⟨rfl, rfl⟩ := H
      go_enter Tryd.func35, Tryd.ntmps35
      go_wp2_with (first | ((with_reducible refine gate_dst (N := 2) rfl ?_); refine box_event ?hg (N := 2) ?hd (cs := #[.slice A0_0 l0_0.length c0_0]) (t := 24) ?hr ?_; (case hd => rfl); (case hg => rfl); (case hr => first | (go_simp; done) | (go_simp; rfl)); intro gb557 hg w8 hbox hb; have n0_ := Aside0.mk (below_step (by repeat (first | (with_reducible first | exact HB.out | apply below_alloc | apply pw_below_drewN | apply below_drew1) | exact HB.out)) hb); have n1_ := Aside0.mk (hbox); have n2_ := Aside0.mk ((by rw [hg]; exact (below_size (by repeat (first | (with_reducible first | exact HB.out | apply below_alloc | apply pw_below_drewN | apply below_drew1) | exact HB.out))) : w.heap.size ≤ gb557)); have n3_ := Aside0.mk ((by rw [hg]; exact (below_size (by repeat (first | (with_reducible first | exact HB.out | apply below_alloc | apply pw_below_drewN | apply below_drew1) | exact HB.out))) : w.heap.size ≤ gb557)); clear HB; have HB := n0_; have BK557 := n1_; have GW557 := n2_; have GE557 := n3_; clear n0_ n1_ n2_ n3_; clear hb hbox hg; have hcz9_0 : w8.cell? ⟨gb557, 0, none⟩ = some (.slice A0_0 l0_0.length c0_0) := (blk_cell BK557.out 0).trans rfl; have hfz9_0 := blk_frozen BK557.out 0) | ((with_reducible refine gate_callee (f := 25) rfl ?_); refine goesL_ (some 8) rfl rfl Tryd.func25 (by kernel_rfl) rfl #[.agg #[.slice A0_0 l0_0.length c0_0]] rfl (by (try simp only [List.map_toArray, List.map_cons, List.map_nil]); first | done | rfl | (simp only [List.length_drop, List.length_take]; rfl)) ?_; (with_reducible refine (pack_Check.calls k _ _ l0_0 t558 _ ?side1 ?side2 A3.out).mono ?_); (case side1 => repeat (first | exact (Kd.C_below HR0_0.out HB.out) | (with_reducible refine Kd.C_alloc ?_ _) | (with_reducible refine Kd.C_drewN ?_ _) | (with_reducible refine Kd.C_drew ?_))); (case side2 => exact HC0_0.out); rintro e w10 ⟨rfl, hb⟩; refine ⟨_, rfl, ?_⟩; have n0_ := Aside0.mk (blk_below (g := gb557) (o := .cells #[.slice A0_0 l0_0.length c0_0] 24 (0, 0)) (by (with_reducible repeat (first | refine blk_drewN ?_ _ | refine blk_drew ?_ | refine blk_alloc ?_ _)); exact BK557.out) hb); have n1_ := Aside0.mk (below_step (by repeat (first | (with_reducible first | exact HB.out | apply below_alloc | apply pw_below_drewN | apply below_drew1 | refine below_set ?_ GE557.out) | exact HB.out)) hb); clear BK557; clear HB; have BK557 := n0_; have HB := n1_; clear n0_ n1_; (try clear hb); (try clear hb2); (try clear hk); (try clear hi)) | ((with_reducible refine gate_callee (f := 67) rfl ?_); refine goesL_ (some 13) rfl rfl Tryd.func67 (by kernel_rfl) rfl #[.int .i64 a1, .int .i64 0, .int .i64 60] rfl (by (try simp only [List.map_toArray, List.map_cons, List.map_nil]); first | done | rfl | (simp only [List.length_drop, List.length_take]; rfl)) ?_; (with_reducible refine (pack_from.calls a1 0 60 true _ A5.out).mono ?_); rintro e w' ⟨rfl, ⟨nd, rfl⟩⟩; refine ⟨_, rfl, ?_⟩; have hcz11_0 : w10.cell? ⟨gb557, 0, none⟩ = some (.slice A0_0 l0_0.length c0_0) := (blk_cell BK557.out 0).trans rfl; have hfz11_0 := blk_frozen BK557.out 0) | ((with_reducible refine gate_callee (f := 79) rfl ?_); refine goesL_ (some 17) rfl rfl Tryd.func79 (by kernel_rfl) rfl #[.agg #[.slice A0_0 l0_0.length c0_0], .int .i64 a1] rfl (by (try simp only [List.map_toArray, List.map_cons, List.map_nil]); first | done | rfl | (simp only [List.length_drop, List.length_take]; rfl)) ?_; (with_reducible refine (pack_breaks.calls _ _ l0_0 a1 t560 _ ?side1 ?side2 A7.out).mono ?_); (case side1 => repeat (first | exact (Kd.C_below HR0_0.out (by repeat (first | (with_reducible first | exact HB.out | apply below_alloc | apply pw_below_drewN | apply below_drew1 | refine below_set ?_ GE557.out) | exact HB.out))) | (with_reducible refine Kd.C_alloc ?_ _) | (with_reducible refine Kd.C_drewN ?_ _) | (with_reducible refine Kd.C_drew ?_))); (case side2 => exact HC0_0.out); rintro e w12 ⟨rfl, hb⟩; refine ⟨_, rfl, ?_⟩; have n0_ := Aside0.mk (blk_below (g := gb557) (o := .cells #[.slice A0_0 l0_0.length c0_0] 24 (0, 0)) (by (with_reducible repeat (first | refine blk_drewN ?_ _ | refine blk_drew ?_ | refine blk_alloc ?_ _)); exact BK557.out) hb); have n1_ := Aside0.mk (below_step (by repeat (first | (with_reducible first | exact HB.out | apply below_alloc | apply pw_below_drewN | apply below_drew1 | refine below_set ?_ GE557.out) | exact HB.out)) hb); clear BK557; clear HB; have BK557 := n0_; have HB := n1_; clear n0_ n1_; (try clear hb); (try clear hb2); (try clear hk); (try clear hi)))
      go_ret2
      exact ⟨by first | rfl | (simp [errW_none, errW_some] <;> rfl) | (simp [*, errW_none, errW_some] <;> rfl), by repeat (first | (with_reducible first | exact HB.out | apply below_alloc | apply pw_below_drewN | apply below_drew1 | refine below_set ?_ GE557.out) | exact HB.out)⟩
    · replace c6 := Bool.eq_false_iff.mpr c6
      subst c6
      have H1 : (some (false, 1)) = some (r1, r2) := by rw [if_neg (show ¬ (false = true) by decide)] at H; exact H
      clear H
      have H := H1
      clear H1
      simp only [Option.some.injEq, Prod.mk.injEq] at H
      obtain ⟨rfl, rfl⟩ := H
      go_enter Tryd.func35, Tryd.ntmps35
      go_wp2_with (first | ((with_reducible refine gate_dst (N := 2) rfl ?_); refine box_event ?hg (N := 2) ?hd (cs := #[.slice A0_0 l0_0.length c0_0]) (t := 24) ?hr ?_; (case hd => rfl); (case hg => rfl); (case hr => first | (go_simp; done) | (go_simp; rfl)); intro gb557 hg w13 hbox hb; have n0_ := Aside0.mk (below_step (by repeat (first | (with_reducible first | exact HB.out | apply below_alloc | apply pw_below_drewN | apply below_drew1) | exact HB.out)) hb); have n1_ := Aside0.mk (hbox); have n2_ := Aside0.mk ((by rw [hg]; exact (below_size (by repeat (first | (with_reducible first | exact HB.out | apply below_alloc | apply pw_below_drewN | apply below_drew1) | exact HB.out))) : w.heap.size ≤ gb557)); have n3_ := Aside0.mk ((by rw [hg]; exact (below_size (by repeat (first | (with_reducible first | exact HB.out | apply below_alloc | apply pw_below_drewN | apply below_drew1) | exact HB.out))) : w.heap.size ≤ gb557)); clear HB; have HB := n0_; have BK557 := n1_; have GW557 := n2_; have GE557 := n3_; clear n0_ n1_ n2_ n3_; clear hb hbox hg; have hcz14_0 : w13.cell? ⟨gb557, 0, none⟩ = some (.slice A0_0 l0_0.length c0_0) := (blk_cell BK557.out 0).trans rfl; have hfz14_0 := blk_frozen BK557.out 0) | ((with_reducible refine gate_callee (f := 25) rfl ?_); refine goesL_ (some 8) rfl rfl Tryd.func25 (by kernel_rfl) rfl #[.agg #[.slice A0_0 l0_0.length c0_0]] rfl (by (try simp only [List.map_toArray, List.map_cons, List.map_nil]); first | done | rfl | (simp only [List.length_drop, List.length_take]; rfl)) ?_; (with_reducible refine (pack_Check.calls k _ _ l0_0 t558 _ ?side1 ?side2 A3.out).mono ?_); (case side1 => repeat (first | exact (Kd.C_below HR0_0.out HB.out) | (with_reducible refine Kd.C_alloc ?_ _) | (with_reducible refine Kd.C_drewN ?_ _) | (with_reducible refine Kd.C_drew ?_))); (case side2 => exact HC0_0.out); rintro e w15 ⟨rfl, hb⟩; refine ⟨_, rfl, ?_⟩; have n0_ := Aside0.mk (blk_below (g := gb557) (o := .cells #[.slice A0_0 l0_0.length c0_0] 24 (0, 0)) (by (with_reducible repeat (first | refine blk_drewN ?_ _ | refine blk_drew ?_ | refine blk_alloc ?_ _)); exact BK557.out) hb); have n1_ := Aside0.mk (below_step (by repeat (first | (with_reducible first | exact HB.out | apply below_alloc | apply pw_below_drewN | apply below_drew1 | refine below_set ?_ GE557.out) | exact HB.out)) hb); clear BK557; clear HB; have BK557 := n0_; have HB := n1_; clear n0_ n1_; (try clear hb); (try clear hb2); (try clear hk); (try clear hi)) | ((with_reducible refine gate_callee (f := 67) rfl ?_); refine goesL_ (some 13) rfl rfl Tryd.func67 (by kernel_rfl) rfl #[.int .i64 a1, .int .i64 0, .int .i64 60] rfl (by (try simp only [List.map_toArray, List.map_cons, List.map_nil]); first | done | rfl | (simp only [List.length_drop, List.length_take]; rfl)) ?_; (with_reducible refine (pack_from.calls a1 0 60 false _ A5.out).mono ?_); rintro e w' ⟨rfl, ⟨nd, rfl⟩⟩; refine ⟨_, rfl, ?_⟩))
      go_ret2
      exact ⟨by first | rfl | (simp [errW_none, errW_some] <;> rfl) | (simp [*, errW_none, errW_some] <;> rfl), by repeat (first | (with_reducible first | exact HB.out | apply below_alloc | apply pw_below_drewN | apply below_drew1 | refine below_set ?_ GE557.out) | exact HB.out)⟩
  · rw [if_neg c4] at H
    have c4b0 : (t558 == 0) = false := beq_eq_false_iff_ne.mpr c4
    have c4b1 : (t558 != 0) = true := bne_iff_ne.mpr c4
    simp only [Option.some.injEq, Prod.mk.injEq] at H
    obtain ⟨rfl, rfl⟩ := H
    go_enter Tryd.func35, Tryd.ntmps35
    go_wp2_with (first | ((with_reducible refine gate_dst (N := 2) rfl ?_); refine box_event ?hg (N := 2) ?hd (cs := #[.slice A0_0 l0_0.length c0_0]) (t := 24) ?hr ?_; (case hd => rfl); (case hg => rfl); (case hr => first | (go_simp; done) | (go_simp; rfl)); intro gb557 hg w16 hbox hb; have n0_ := Aside0.mk (below_step (by repeat (first | (with_reducible first | exact HB.out | apply below_alloc | apply pw_below_drewN | apply below_drew1) | exact HB.out)) hb); have n1_ := Aside0.mk (hbox); have n2_ := Aside0.mk ((by rw [hg]; exact (below_size (by repeat (first | (with_reducible first | exact HB.out | apply below_alloc | apply pw_below_drewN | apply below_drew1) | exact HB.out))) : w.heap.size ≤ gb557)); have n3_ := Aside0.mk ((by rw [hg]; exact (below_size (by repeat (first | (with_reducible first | exact HB.out | apply below_alloc | apply pw_below_drewN | apply below_drew1) | exact HB.out))) : w.heap.size ≤ gb557)); clear HB; have HB := n0_; have BK557 := n1_; have GW557 := n2_; have GE557 := n3_; clear n0_ n1_ n2_ n3_; clear hb hbox hg; have hcz17_0 : w16.cell? ⟨gb557, 0, none⟩ = some (.slice A0_0 l0_0.length c0_0) := (blk_cell BK557.out 0).trans rfl; have hfz17_0 := blk_frozen BK557.out 0) | ((with_reducible refine gate_callee (f := 25) rfl ?_); refine goesL_ (some 8) rfl rfl Tryd.func25 (by kernel_rfl) rfl #[.agg #[.slice A0_0 l0_0.length c0_0]] rfl (by (try simp only [List.map_toArray, List.map_cons, List.map_nil]); first | done | rfl | (simp only [List.length_drop, List.length_take]; rfl)) ?_; (with_reducible refine (pack_Check.calls k _ _ l0_0 t558 _ ?side1 ?side2 A3.out).mono ?_); (case side1 => repeat (first | exact (Kd.C_below HR0_0.out HB.out) | (with_reducible refine Kd.C_alloc ?_ _) | (with_reducible refine Kd.C_drewN ?_ _) | (with_reducible refine Kd.C_drew ?_))); (case side2 => exact HC0_0.out); rintro e w18 ⟨rfl, hb⟩; refine ⟨_, rfl, ?_⟩; have n0_ := Aside0.mk (blk_below (g := gb557) (o := .cells #[.slice A0_0 l0_0.length c0_0] 24 (0, 0)) (by (with_reducible repeat (first | refine blk_drewN ?_ _ | refine blk_drew ?_ | refine blk_alloc ?_ _)); exact BK557.out) hb); have n1_ := Aside0.mk (below_step (by repeat (first | (with_reducible first | exact HB.out | apply below_alloc | apply pw_below_drewN | apply below_drew1 | refine below_set ?_ GE557.out) | exact HB.out)) hb); clear BK557; clear HB; have BK557 := n0_; have HB := n1_; clear n0_ n1_; (try clear hb); (try clear hb2); (try clear hk); (try clear hi)))
    go_ret2
    exact ⟨by first | rfl | (simp [errW_none, errW_some] <;> rfl) | (simp [*, errW_none, errW_some] <;> rfl), by repeat (first | (with_reducible first | exact HB.out | apply below_alloc | apply pw_below_drewN | apply below_drew1 | refine below_set ?_ GE557.out) | exact HB.out)⟩
end Go.Proofs.YtpldcikmlpegpaaDoor.PB
end
section
namespace Go.Proofs.YtpldcikmlpegpaaDoor.PB
open Go.RowKit Go.Proofs.YtpldcikmlpegpaaDoorW.PrintWords Go.Proofs.YtpldcikmlpegpaaDoorW.PrintLast Go.Proofs.YtpldcikmlpegpaaDoorW.PrintMore
attribute [local go_sem] max2_int min2_int max_two min_two max_three min_three max_four min_four   -- for this text's walks alone
set_option linter.unusedVariables false
set_option linter.unusedSimpArgs false
mutual
def snowlinelaw02_PackSlopes.j0 : Nat → Int → Bool → Bool → List (S48) → Option (Bool)
  | 0, _, _, _, _ => none
  | k + 1, x1, x7, x59, x592000 => if x59 = true then (some false) else ((pack_Steepest.f k x592000).bind fun bt597 => (if bt597.2 = 0 then (if bt597.1 < 25 then (snowlinelaw02_PackSlopes.j1 k x1 x7 true x592000) else (if bt597.1 > 60 then (snowlinelaw02_PackSlopes.j1 k x1 x7 true x592000) else (snowlinelaw02_PackSlopes.j1 k x1 x7 (x7 != (decide (x1 > bt597.1))) x592000))) else (snowlinelaw02_PackSlopes.j1 k x1 x7 true x592000)))
def snowlinelaw02_PackSlopes.j1 : Nat → Int → Bool → Bool → List (S48) → Option (Bool)
  | 0, _, _, _, _ => none
  | k + 1, x1, x7, x81, x592000 => if x81 = true then (some false) else ((pack_Weakest.f x592000).bind fun bt599 => (if bt599.2.2 = 0 then (if bt599.1 < 0 then (some false) else (if bt599.1 ≥ (x592000.length : Int) then (some false) else (if 0 ≤ bt599.1 then (if bt599.1 < (x592000.length : Int) then ((snowlineref02_Strength.f ((rd_T48 x592000 bt599.1).f0) ((rd_T48 x592000 bt599.1).f1) ((rd_T48 x592000 bt599.1).f2)).bind fun t603 => (some (x7 == (decide ((wrap64 (bt599.2.1 * (wrap64 (x1 - 25)))) > (wrap64 (3 * t603))))))) else (none)) else (none)))) else (if bt599.2.2 = 4 then (if (x592000.length : Int) = 0 then (some (!x7)) else (some false)) else (some false))))
end
def snowlinelaw02_PackSlopes.f (k : Nat) (l0_0 : List (S48)) (a1 : Int) (a2 : Int) : Option (Bool) := (snowlinelaw02_sane.f k).bind fun t592 => (if t592 = true then ((pack_Breaks.f k l0_0 a1).bind fun bt593 => (if bt593.2 = 0 then ((pack_Breaks.f k l0_0 a2).bind fun bt595 => (if bt595.2 = 0 then (if a1 ≥ a2 then (if bt595.1 = true then (if bt593.1 = true then (if a1 ≤ a2 then (snowlinelaw02_PackSlopes.j0 k a1 bt593.1 (!bt595.1) l0_0) else (snowlinelaw02_PackSlopes.j0 k a1 bt593.1 false l0_0)) else (snowlinelaw02_PackSlopes.j0 k a1 bt593.1 true l0_0)) else (if a1 ≤ a2 then (if bt593.1 = true then (snowlinelaw02_PackSlopes.j0 k a1 bt593.1 (!bt595.1) l0_0) else (snowlinelaw02_PackSlopes.j0 k a1 bt593.1 false l0_0)) else (snowlinelaw02_PackSlopes.j0 k a1 bt593.1 false l0_0))) else (if a1 ≤ a2 then (if bt593.1 = true then (snowlinelaw02_PackSlopes.j0 k a1 bt593.1 (!bt595.1) l0_0) else (snowlinelaw02_PackSlopes.j0 k a1 bt593.1 false l0_0)) else (snowlinelaw02_PackSlopes.j0 k a1 bt593.1 false l0_0))) else (snowlinelaw02_PackSlopes.j0 k a1 bt593.1 false l0_0))) else (some (!bt593.1)))) else (some false))
set_option maxHeartbeats 8000000 in
set_option maxRecDepth 100000 in
theorem snowlinelaw02_PackSlopes.calls (k : Nat) (A0_0 : Option Addr) (c0_0 : Nat) (l0_0 : List (S48)) (a1 : Int) (a2 : Int) (r : Bool) (w : World) (hr0_0 : Kd.C k48 w A0_0 l0_0.length l0_0) (hc0_0 : l0_0.length ≤ c0_0) (hG : Glob w) (h : snowlinelaw02_PackSlopes.f k l0_0 a1 a2 = some r) :
    Calls Tryd.prog 10 #[.agg #[.slice A0_0 l0_0.length c0_0], .int .i64 a1, .int .i64 a2] w fun e w' => e = .returned (.bool r) ∧ Below w.heap.size w w' := by
  have hu24 := Tryd.underlying24
  have hu48 := Tryd.underlying48
  have HR0_0 := Aside0.mk hr0_0
  have HC0_0 := Aside0.mk hc0_0
  clear hr0_0 hc0_0
  have HB := Aside0.mk (Below.refl w.heap.size w)
  have HGl := Aside0.mk hG
  clear hG
  have H : ((snowlinelaw02_sane.f k).bind fun t592 => (if t592 = true then ((pack_Breaks.f k l0_0 a1).bind fun bt593 => (if bt593.2 = 0 then ((pack_Breaks.f k l0_0 a2).bind fun bt595 => (if bt595.2 = 0 then (if a1 ≥ a2 then (if bt595.1 = true then (if bt593.1 = true then (if a1 ≤ a2 then (snowlinelaw02_PackSlopes.j0 k a1 bt593.1 (!bt595.1) l0_0) else (snowlinelaw02_PackSlopes.j0 k a1 bt593.1 false l0_0)) else (snowlinelaw02_PackSlopes.j0 k a1 bt593.1 true l0_0)) else (if a1 ≤ a2 then (if bt593.1 = true then (snowlinelaw02_PackSlopes.j0 k a1 bt593.1 (!bt595.1) l0_0) else (snowlinelaw02_PackSlopes.j0 k a1 bt593.1 false l0_0)) else (snowlinelaw02_PackSlopes.j0 k a1 bt593.1 false l0_0))) else (if a1 ≤ a2 then (if bt593.1 = true then (snowlinelaw02_PackSlopes.j0 k a1 bt593.1 (!bt595.1) l0_0) else (snowlinelaw02_PackSlopes.j0 k a1 bt593.1 false l0_0)) else (snowlinelaw02_PackSlopes.j0 k a1 bt593.1 false l0_0))) else (snowlinelaw02_PackSlopes.j0 k a1 bt593.1 false l0_0))) else (some (!bt593.1)))) else (some false))) = some r := h
  clear h
  replace H := Option.bind_eq_some_iff.mp H
  obtain ⟨t592, A40, H⟩ := H
  replace H : (if t592 = true then ((pack_Breaks.f k l0_0 a1).bind fun bt593 => (if bt593.2 = 0 then ((pack_Breaks.f k l0_0 a2).bind fun bt595 => (if bt595.2 = 0 then (if a1 ≥ a2 then (if bt595.1 = true then (if bt593.1 = true then (if a1 ≤ a2 then (snowlinelaw02_PackSlopes.j0 k a1 bt593.1 (!bt595.1) l0_0) else (snowlinelaw02_PackSlopes.j0 k a1 bt593.1 false l0_0)) else (snowlinelaw02_PackSlopes.j0 k a1 bt593.1 true l0_0)) else (if a1 ≤ a2 then (if bt593.1 = true then (snowlinelaw02_PackSlopes.j0 k a1 bt593.1 (!bt595.1) l0_0) else (snowlinelaw02_PackSlopes.j0 k a1 bt593.1 false l0_0)) else (snowlinelaw02_PackSlopes.j0 k a1 bt593.1 false l0_0))) else (if a1 ≤ a2 then (if bt593.1 = true then (snowlinelaw02_PackSlopes.j0 k a1 bt593.1 (!bt595.1) l0_0) else (snowlinelaw02_PackSlopes.j0 k a1 bt593.1 false l0_0)) else (snowlinelaw02_PackSlopes.j0 k a1 bt593.1 false l0_0))) else (snowlinelaw02_PackSlopes.j0 k a1 bt593.1 false l0_0))) else (some (!bt593.1)))) else (some false)) = some r := H
  have A4 := Aside0.mk A40
  clear A40
  by_cases c5 : t592 = true
  · subst c5
    have H1 : ((pack_Breaks.f k l0_0 a1).bind fun bt593 => (if bt593.2 = 0 then ((pack_Breaks.f k l0_0 a2).bind fun bt595 => (if bt595.2 = 0 then (if a1 ≥ a2 then (if bt595.1 = true then (if bt593.1 = true then (if a1 ≤ a2 then (snowlinelaw02_PackSlopes.j0 k a1 bt593.1 (!bt595.1) l0_0) else (snowlinelaw02_PackSlopes.j0 k a1 bt593.1 false l0_0)) else (snowlinelaw02_PackSlopes.j0 k a1 bt593.1 true l0_0)) else (if a1 ≤ a2 then (if bt593.1 = true then (snowlinelaw02_PackSlopes.j0 k a1 bt593.1 (!bt595.1) l0_0) else (snowlinelaw02_PackSlopes.j0 k a1 bt593.1 false l0_0)) else (snowlinelaw02_PackSlopes.j0 k a1 bt593.1 false l0_0))) else (if a1 ≤ a2 then (if bt593.1 = true then (snowlinelaw02_PackSlopes.j0 k a1 bt593.1 (!bt595.1) l0_0) else (snowlinelaw02_PackSlopes.j0 k a1 bt593.1 false l0_0)) else (snowlinelaw02_PackSlopes.j0 k a1 bt593.1 false l0_0))) else (snowlinelaw02_PackSlopes.j0 k a1 bt593.1 false l0_0))) else (some (!bt593.1)))) = some r := by rw [if_pos rfl] at H; exact H
    clear H
    have H := H1
    clear H1
    replace H := Option.bind_eq_some_iff.mp H
    obtain ⟨⟨t593, t594⟩, A60, H⟩ := H
    replace H : (if t594 = 0 then ((pack_Breaks.f k l0_0 a2).bind fun bt595 => (if bt595.2 = 0 then (if a1 ≥ a2 then (if bt595.1 = true then (if t593 = true then (if a1 ≤ a2 then (snowlinelaw02_PackSlopes.j0 k a1 t593 (!bt595.1) l0_0) else (snowlinelaw02_PackSlopes.j0 k a1 t593 false l0_0)) else (snowlinelaw02_PackSlopes.j0 k a1 t593 true l0_0)) else (if a1 ≤ a2 then (if t593 = true then (snowlinelaw02_PackSlopes.j0 k a1 t593 (!bt595.1) l0_0) else (snowlinelaw02_PackSlopes.j0 k a1 t593 false l0_0)) else (snowlinelaw02_PackSlopes.j0 k a1 t593 false l0_0))) else (if a1 ≤ a2 then (if t593 = true then (snowlinelaw02_PackSlopes.j0 k a1 t593 (!bt595.1) l0_0) else (snowlinelaw02_PackSlopes.j0 k a1 t593 false l0_0)) else (snowlinelaw02_PackSlopes.j0 k a1 t593 false l0_0))) else (snowlinelaw02_PackSlopes.j0 k a1 t593 false l0_0))) else (some (!t593))) = some r := H
    have A6 := Aside0.mk A60
    clear A60
    by_cases c7 : t594 = 0
    · rw [if_pos c7] at H
      have c7b0 : (t594 == 0) = true := beq_iff_eq.mpr c7
      have c7b1 : (t594 != 0) = false := bne_eq_false_iff_eq.mpr c7
      clear c7
      replace H := Option.bind_eq_some_iff.mp H
      obtain ⟨⟨t595, t596⟩, A80, H⟩ := H
      replace H : (if t596 = 0 then (if a1 ≥ a2 then (if t595 = true then (if t593 = true then (if a1 ≤ a2 then (snowlinelaw02_PackSlopes.j0 k a1 t593 (!t595) l0_0) else (snowlinelaw02_PackSlopes.j0 k a1 t593 false l0_0)) else (snowlinelaw02_PackSlopes.j0 k a1 t593 true l0_0)) else (if a1 ≤ a2 then (if t593 = true then (snowlinelaw02_PackSlopes.j0 k a1 t593 (!t595) l0_0) else (snowlinelaw02_PackSlopes.j0 k a1 t593 false l0_0)) else (snowlinelaw02_PackSlopes.j0 k a1 t593 false l0_0))) else (if a1 ≤ a2 then (if t593 = true then (snowlinelaw02_PackSlopes.j0 k a1 t593 (!t595) l0_0) else (snowlinelaw02_PackSlopes.j0 k a1 t593 false l0_0)) else (snowlinelaw02_PackSlopes.j0 k a1 t593 false l0_0))) else (snowlinelaw02_PackSlopes.j0 k a1 t593 false l0_0)) = some r := H
      have A8 := Aside0.mk A80
      clear A80
      have HC9 := Aside0.mk H
      clear H
      go_enter Tryd.func10, Tryd.ntmps10
      go_upto_region 7 with (first | ((with_reducible refine gate_dst (N := 3) rfl ?_); (try (refine gate_guard (by rfl) ?_; dsimp only)); refine box_event ?hg (N := 3) ?hd (cs := #[.slice A0_0 l0_0.length c0_0]) (t := 24) ?hr ?_; (case hd => rfl); (case hg => rfl); (case hr => first | (go_simp; done) | (go_simp; rfl)); intro gb591 hg w10 hbox hb; have n0_ := Aside0.mk (below_step (by repeat (first | (with_reducible first | exact HB.out | apply below_alloc | apply pw_below_drewN | apply below_drew1) | exact HB.out)) hb); have n1_ := Aside0.mk (hbox); have n2_ := Aside0.mk ((by rw [hg]; exact (below_size (by repeat (first | (with_reducible first | exact HB.out | apply below_alloc | apply pw_below_drewN | apply below_drew1) | exact HB.out))) : w.heap.size ≤ gb591)); have n3_ := Aside0.mk ((by rw [hg]; exact (below_size (by repeat (first | (with_reducible first | exact HB.out | apply below_alloc | apply pw_below_drewN | apply below_drew1) | exact HB.out))) : w.heap.size ≤ gb591)); clear HB; have HB := n0_; have BK591 := n1_; have GW591 := n2_; have GE591 := n3_; clear n0_ n1_ n2_ n3_; clear hb hbox hg) | ((with_reducible refine gate_callee (f := 18) rfl ?_); refine goesL_ (some 16) rfl rfl Tryd.func18 (by kernel_rfl) rfl #[] rfl (by (try simp only [List.map_toArray, List.map_cons, List.map_nil]); first | done | rfl | (simp only [List.length_drop, List.length_take]; rfl)) ?_; (with_reducible refine (snowlinelaw02_sane.calls k  true _ ?hgl_ A4.out).mono ?_); (case hgl_ => exact HGl.out.below (by repeat (first | (with_reducible first | exact HB.out | apply below_alloc | apply pw_below_drewN | apply below_drew1 | refine below_set ?_ GE591.out) | exact HB.out)) (Nat.le_refl _)); rintro e w11 ⟨rfl, hb⟩; refine ⟨_, rfl, ?_⟩; have n0_ := Aside0.mk (blk_below (g := gb591) (o := .cells #[.slice A0_0 l0_0.length c0_0] 24 (0, 0)) (by (with_reducible repeat (first | refine blk_drewN ?_ _ | refine blk_drew ?_ | refine blk_alloc ?_ _)); exact BK591.out) hb); have n1_ := Aside0.mk (below_step (by repeat (first | (with_reducible first | exact HB.out | apply below_alloc | apply pw_below_drewN | apply below_drew1 | refine below_set ?_ GE591.out) | exact HB.out)) hb); clear BK591; clear HB; have BK591 := n0_; have HB := n1_; clear n0_ n1_; (try clear hb); (try clear hb2); (try clear hk); (try clear hi); have hcz12_0 : w11.cell? ⟨gb591, 0, none⟩ = some (.slice A0_0 l0_0.length c0_0) := (blk_cell BK591.out 0).trans rfl; have hfz12_0 := blk_frozen BK591.out 0) | ((with_reducible refine gate_callee (f := 35) rfl ?_); refine goesL_ (some 21) rfl rfl Tryd.func35 (by kernel_rfl) rfl #[.agg #[.slice A0_0 l0_0.length c0_0], .int .i64 a1] rfl (by (try simp only [List.map_toArray, List.map_cons, List.map_nil]); first | done | rfl | (simp only [List.length_drop, List.length_take]; rfl)) ?_; (with_reducible refine (pack_Breaks.calls k _ _ l0_0 a1 t593 t594 _ ?side1 ?side2 A6.out).mono ?_); (case side1 => repeat (first | exact (Kd.C_below HR0_0.out HB.out) | (with_reducible refine Kd.C_alloc ?_ _) | (with_reducible refine Kd.C_drewN ?_ _) | (with_reducible refine Kd.C_drew ?_))); (case side2 => exact HC0_0.out); rintro e w13 ⟨rfl, hb⟩; refine ⟨_, rfl, ?_⟩; have n0_ := Aside0.mk (blk_below (g := gb591) (o := .cells #[.slice A0_0 l0_0.length c0_0] 24 (0, 0)) (by (with_reducible repeat (first | refine blk_drewN ?_ _ | refine blk_drew ?_ | refine blk_alloc ?_ _)); exact BK591.out) hb); have n1_ := Aside0.mk (below_step (by repeat (first | (with_reducible first | exact HB.out | apply below_alloc | apply pw_below_drewN | apply below_drew1 | refine below_set ?_ GE591.out) | exact HB.out)) hb); clear BK591; clear HB; have BK591 := n0_; have HB := n1_; clear n0_ n1_; (try clear hb); (try clear hb2); (try clear hk); (try clear hi); have hcz14_0 : w13.cell? ⟨gb591, 0, none⟩ = some (.slice A0_0 l0_0.length c0_0) := (blk_cell BK591.out 0).trans rfl; have hfz14_0 := blk_frozen BK591.out 0) | ((with_reducible refine gate_callee (f := 35) rfl ?_); refine goesL_ (some 31) rfl rfl Tryd.func35 (by kernel_rfl) rfl #[.agg #[.slice A0_0 l0_0.length c0_0], .int .i64 a2] rfl (by (try simp only [List.map_toArray, List.map_cons, List.map_nil]); first | done | rfl | (simp only [List.length_drop, List.length_take]; rfl)) ?_; (with_reducible refine (pack_Breaks.calls k _ _ l0_0 a2 t595 t596 _ ?side1 ?side2 A8.out).mono ?_); (case side1 => repeat (first | exact (Kd.C_below HR0_0.out HB.out) | (with_reducible refine Kd.C_alloc ?_ _) | (with_reducible refine Kd.C_drewN ?_ _) | (with_reducible refine Kd.C_drew ?_))); (case side2 => exact HC0_0.out); rintro e w15 ⟨rfl, hb⟩; refine ⟨_, rfl, ?_⟩; have n0_ := Aside0.mk (blk_below (g := gb591) (o := .cells #[.slice A0_0 l0_0.length c0_0] 24 (0, 0)) (by (with_reducible repeat (first | refine blk_drewN ?_ _ | refine blk_drew ?_ | refine blk_alloc ?_ _)); exact BK591.out) hb); have n1_ := Aside0.mk (below_step (by repeat (first | (with_reducible first | exact HB.out | apply below_alloc | apply pw_below_drewN | apply below_drew1 | refine below_set ?_ GE591.out) | exact HB.out)) hb); clear BK591; clear HB; have BK591 := n0_; have HB := n1_; clear n0_ n1_; (try clear hb); (try clear hb2); (try clear hk); (try clear hi)))
      (try simp only [Act.put, List.setIfInBounds_toArray, List.set_cons_zero, List.set_cons_succ])
      go_cut [59] (fun v59 wc => ∃ (kq : Nat) (x59_8 : Bool), v59 = .bool x59_8 ∧ Aside0 (snowlinelaw02_PackSlopes.j0 kq a1 t593 x59_8 l0_0 = some r) ∧ Aside0 (kq ≤ k) ∧ Aside0 (wc.heap[gb591]? = some (.cells #[(.slice A0_0 l0_0.length c0_0)] 24 (0, 0))) ∧ Aside0 (Below w.heap.size w wc))
      case first =>
        have H := HC9.out
        clear HC9
        by_cases c16 : t596 = 0
        · rw [if_pos c16] at H
          have c16b0 : (t596 == 0) = true := beq_iff_eq.mpr c16
          have c16b1 : (t596 != 0) = false := bne_eq_false_iff_eq.mpr c16
          clear c16
          (first | rw [c16b0] | (simp only [i64_w, i32_w]; rw [c16b0]) | skip)
          by_cases c17 : a1 ≥ a2
          · rw [if_pos c17] at H
            have c17b0 : decide (a2 ≤ a1) = true := decide_eq_true c17
            clear c17
            by_cases c18 : t595 = true
            · subst c18
              have H1 : (if t593 = true then (if a1 ≤ a2 then (snowlinelaw02_PackSlopes.j0 k a1 t593 (!true) l0_0) else (snowlinelaw02_PackSlopes.j0 k a1 t593 false l0_0)) else (snowlinelaw02_PackSlopes.j0 k a1 t593 true l0_0)) = some r := by rw [if_pos rfl] at H; exact H
              clear H
              have H := H1
              clear H1
              by_cases c19 : t593 = true
              · subst c19
                have H1 : (if a1 ≤ a2 then (snowlinelaw02_PackSlopes.j0 k a1 true (!true) l0_0) else (snowlinelaw02_PackSlopes.j0 k a1 true false l0_0)) = some r := by rw [if_pos rfl] at H; exact H
                clear H
                have H := H1
                clear H1
                by_cases c20 : a1 ≤ a2
                · rw [if_pos c20] at H
                  have c20b0 : decide (a1 ≤ a2) = true := decide_eq_true c20
                  clear c20
                  have H' := Aside0.mk H
                  clear H
                  go_wp2
                  go_meet
                  case rel => exact ⟨_, (!true), (by first | rfl | (simp; done) | (simp [*]; done)), H', ⟨by first | omega | exact Nat.le_refl _⟩, ⟨by (with_reducible repeat (first | refine blk_drewN ?_ _ | refine blk_drew ?_ | refine blk_alloc ?_ _)); exact BK591.out⟩, ⟨by repeat (first | (with_reducible first | exact HB.out | apply below_alloc | apply pw_below_drewN | apply below_drew1 | refine below_set ?_ GE591.out) | exact HB.out)⟩⟩
                · rw [if_neg c20] at H
                  have c20b0 : decide (a1 ≤ a2) = false := decide_eq_false c20
                  clear c20
                  have H' := Aside0.mk H
                  clear H
                  go_wp2
                  go_meet
                  case rel => exact ⟨_, (false), (by first | rfl | (simp; done) | (simp [*]; done)), H', ⟨by first | omega | exact Nat.le_refl _⟩, ⟨by (with_reducible repeat (first | refine blk_drewN ?_ _ | refine blk_drew ?_ | refine blk_alloc ?_ _)); exact BK591.out⟩, ⟨by repeat (first | (with_reducible first | exact HB.out | apply below_alloc | apply pw_below_drewN | apply below_drew1 | refine below_set ?_ GE591.out) | exact HB.out)⟩⟩
              · replace c19 := Bool.eq_false_iff.mpr c19
                subst c19
                have H1 : (snowlinelaw02_PackSlopes.j0 k a1 false true l0_0) = some r := by rw [if_neg (show ¬ (false = true) by decide)] at H; exact H
                clear H
                have H := H1
                clear H1
                have H' := Aside0.mk H
                clear H
                go_wp2
                go_meet
                case rel => exact ⟨_, (true), (by first | rfl | (simp; done) | (simp [*]; done)), H', ⟨by first | omega | exact Nat.le_refl _⟩, ⟨by (with_reducible repeat (first | refine blk_drewN ?_ _ | refine blk_drew ?_ | refine blk_alloc ?_ _)); exact BK591.out⟩, ⟨by repeat (first | (with_reducible first | exact HB.out | apply below_alloc | apply pw_below_drewN | apply below_drew1 | refine below_set ?_ GE591.out) | exact HB.out)⟩⟩
            · replace c18 := Bool.eq_false_iff.mpr c18
              subst c18
              have H1 : (if a1 ≤ a2 then (if t593 = true then (snowlinelaw02_PackSlopes.j0 k a1 t593 (!false) l0_0) else (snowlinelaw02_PackSlopes.j0 k a1 t593 false l0_0)) else (snowlinelaw02_PackSlopes.j0 k a1 t593 false l0_0)) = some r := by rw [if_neg (show ¬ (false = true) by decide)] at H; exact H
              clear H
              have H := H1
              clear H1
              by_cases c21 : a1 ≤ a2
              · rw [if_pos c21] at H
                have c21b0 : decide (a1 ≤ a2) = true := decide_eq_true c21
                clear c21
                by_cases c22 : t593 = true
                · subst c22
                  have H1 : (snowlinelaw02_PackSlopes.j0 k a1 true (!false) l0_0) = some r := by rw [if_pos rfl] at H; exact H
                  clear H
                  have H := H1
                  clear H1
                  have H' := Aside0.mk H
                  clear H
                  go_wp2
                  go_meet
                  case rel => exact ⟨_, (!false), (by first | rfl | (simp; done) | (simp [*]; done)), H', ⟨by first | omega | exact Nat.le_refl _⟩, ⟨by (with_reducible repeat (first | refine blk_drewN ?_ _ | refine blk_drew ?_ | refine blk_alloc ?_ _)); exact BK591.out⟩, ⟨by repeat (first | (with_reducible first | exact HB.out | apply below_alloc | apply pw_below_drewN | apply below_drew1 | refine below_set ?_ GE591.out) | exact HB.out)⟩⟩
                · replace c22 := Bool.eq_false_iff.mpr c22
                  subst c22
                  have H1 : (snowlinelaw02_PackSlopes.j0 k a1 false false l0_0) = some r := by rw [if_neg (show ¬ (false = true) by decide)] at H; exact H
                  clear H
                  have H := H1
                  clear H1
                  have H' := Aside0.mk H
                  clear H
                  go_wp2
                  go_meet
                  case rel => exact ⟨_, (false), (by first | rfl | (simp; done) | (simp [*]; done)), H', ⟨by first | omega | exact Nat.le_refl _⟩, ⟨by (with_reducible repeat (first | refine blk_drewN ?_ _ | refine blk_drew ?_ | refine blk_alloc ?_ _)); exact BK591.out⟩, ⟨by repeat (first | (with_reducible first | exact HB.out | apply below_alloc | apply pw_below_drewN | apply below_drew1 | refine below_set ?_ GE591.out) | exact HB.out)⟩⟩
              · rw [if_neg c21] at H
                have c21b0 : decide (a1 ≤ a2) = false := decide_eq_false c21
                clear c21
                have H' := Aside0.mk H
                clear H
                go_wp2
                go_meet
                case rel => exact ⟨_, (false), (by first | rfl | (simp; done) | (simp [*]; done)), H', ⟨by first | omega | exact Nat.le_refl _⟩, ⟨by (with_reducible repeat (first | refine blk_drewN ?_ _ | refine blk_drew ?_ | refine blk_alloc ?_ _)); exact BK591.out⟩, ⟨by repeat (first | (with_reducible first | exact HB.out | apply below_alloc | apply pw_below_drewN | apply below_drew1 | refine below_set ?_ GE591.out) | exact HB.out)⟩⟩
          · rw [if_neg c17] at H
            have c17b0 : decide (a2 ≤ a1) = false := decide_eq_false c17
            clear c17
            by_cases c23 : a1 ≤ a2
            · rw [if_pos c23] at H
              have c23b0 : decide (a1 ≤ a2) = true := decide_eq_true c23
              clear c23
              by_cases c24 : t593 = true
              · subst c24
                have H1 : (snowlinelaw02_PackSlopes.j0 k a1 true (!t595) l0_0) = some r := by rw [if_pos rfl] at H; exact H
                clear H
                have H := H1
                clear H1
                have H' := Aside0.mk H
                clear H
                go_wp2
                go_meet
                case rel => exact ⟨_, (!t595), (by first | rfl | (simp; done) | (simp [*]; done)), H', ⟨by first | omega | exact Nat.le_refl _⟩, ⟨by (with_reducible repeat (first | refine blk_drewN ?_ _ | refine blk_drew ?_ | refine blk_alloc ?_ _)); exact BK591.out⟩, ⟨by repeat (first | (with_reducible first | exact HB.out | apply below_alloc | apply pw_below_drewN | apply below_drew1 | refine below_set ?_ GE591.out) | exact HB.out)⟩⟩
              · replace c24 := Bool.eq_false_iff.mpr c24
                subst c24
                have H1 : (snowlinelaw02_PackSlopes.j0 k a1 false false l0_0) = some r := by rw [if_neg (show ¬ (false = true) by decide)] at H; exact H
                clear H
                have H := H1
                clear H1
                have H' := Aside0.mk H
                clear H
                go_wp2
                go_meet
                case rel => exact ⟨_, (false), (by first | rfl | (simp; done) | (simp [*]; done)), H', ⟨by first | omega | exact Nat.le_refl _⟩, ⟨by (with_reducible repeat (first | refine blk_drewN ?_ _ | refine blk_drew ?_ | refine blk_alloc ?_ _)); exact BK591.out⟩, ⟨by repeat (first | (with_reducible first | exact HB.out | apply below_alloc | apply pw_below_drewN | apply below_drew1 | refine below_set ?_ GE591.out) | exact HB.out)⟩⟩
            · rw [if_neg c23] at H
              have c23b0 : decide (a1 ≤ a2) = false := decide_eq_false c23
              clear c23
              have H' := Aside0.mk H
              clear H
              go_wp2
              go_meet
              case rel => exact ⟨_, (false), (by first | rfl | (simp; done) | (simp [*]; done)), H', ⟨by first | omega | exact Nat.le_refl _⟩, ⟨by (with_reducible repeat (first | refine blk_drewN ?_ _ | refine blk_drew ?_ | refine blk_alloc ?_ _)); exact BK591.out⟩, ⟨by repeat (first | (with_reducible first | exact HB.out | apply below_alloc | apply pw_below_drewN | apply below_drew1 | refine below_set ?_ GE591.out) | exact HB.out)⟩⟩
        · rw [if_neg c16] at H
          have c16b0 : (t596 == 0) = false := beq_eq_false_iff_ne.mpr c16
          have c16b1 : (t596 != 0) = true := bne_iff_ne.mpr c16
          (first | rw [c16b0] | (simp only [i64_w, i32_w]; rw [c16b0]) | skip)
          have H' := Aside0.mk H
          clear H
          go_wp2
          go_meet
          case rel => exact ⟨_, (false), (by first | rfl | (simp; done) | (simp [*]; done)), H', ⟨by first | omega | exact Nat.le_refl _⟩, ⟨by (with_reducible repeat (first | refine blk_drewN ?_ _ | refine blk_drew ?_ | refine blk_alloc ?_ _)); exact BK591.out⟩, ⟨by repeat (first | (with_reducible first | exact HB.out | apply below_alloc | apply pw_below_drewN | apply below_drew1 | refine below_set ?_ GE591.out) | exact HB.out)⟩⟩
      case rest =>
        clear HC9
        try clear c1
        try clear c2
        try clear p2
        try clear c3
        try clear c5
        try clear c7
        try clear c7b0
        try clear c7b1
        try clear c10
        try clear c16
        try clear c16b0
        try clear c16b1
        try clear c17
        try clear c17b0
        try clear c18
        try clear c19
        try clear c20
        try clear c20b0
        try clear c21
        try clear c21b0
        try clear c22
        try clear c23
        try clear c23b0
        try clear c24
        try clear hcz12_0
        try clear hcz14_0
        try clear hfz12_0
        try clear hfz14_0
        obtain ⟨kq, x59_8, rfl, HA, HJ8, BK591, HB⟩ := hcut
        cases kq with
        | zero => exact absurd HA.out (by simp [snowlinelaw02_PackSlopes.j0])
        | succ kj8 =>
          have H := HA.out
          clear HA
          simp only [snowlinelaw02_PackSlopes.j0] at H
          by_cases c25 : x59_8 = true
          · subst c25
            have H1 : (some false) = some r := by rw [if_pos rfl] at H; exact H
            clear H
            have H := H1
            clear H1
            obtain rfl := Option.some.inj H
            go_wp2
            go_ret
            exact ⟨by first | rfl | (simp [errW_none, errW_some] <;> rfl) | (simp [*, errW_none, errW_some] <;> rfl), by repeat (first | (with_reducible first | exact HB.out | apply below_alloc | apply pw_below_drewN | apply below_drew1 | refine below_set ?_ GE591.out) | exact HB.out)⟩
          · replace c25 := Bool.eq_false_iff.mpr c25
            subst c25
            have H1 : ((pack_Steepest.f kj8 l0_0).bind fun bt597 => (if bt597.2 = 0 then (if bt597.1 < 25 then (snowlinelaw02_PackSlopes.j1 kj8 a1 t593 true l0_0) else (if bt597.1 > 60 then (snowlinelaw02_PackSlopes.j1 kj8 a1 t593 true l0_0) else (snowlinelaw02_PackSlopes.j1 kj8 a1 t593 (t593 != (decide (a1 > bt597.1))) l0_0))) else (snowlinelaw02_PackSlopes.j1 kj8 a1 t593 true l0_0))) = some r := by rw [if_neg (show ¬ (false = true) by decide)] at H; exact H
            clear H
            have H := H1
            clear H1
            replace H := Option.bind_eq_some_iff.mp H
            obtain ⟨⟨t597, t598⟩, A260, H⟩ := H
            replace H : (if t598 = 0 then (if t597 < 25 then (snowlinelaw02_PackSlopes.j1 kj8 a1 t593 true l0_0) else (if t597 > 60 then (snowlinelaw02_PackSlopes.j1 kj8 a1 t593 true l0_0) else (snowlinelaw02_PackSlopes.j1 kj8 a1 t593 (t593 != (decide (a1 > t597))) l0_0))) else (snowlinelaw02_PackSlopes.j1 kj8 a1 t593 true l0_0)) = some r := H
            have A26 := Aside0.mk A260
            clear A260
            have HC27 := Aside0.mk H
            clear H
            have hcz28_0 : wc.cell? ⟨gb591, 0, none⟩ = some (.slice A0_0 l0_0.length c0_0) := (blk_cell BK591.out 0).trans rfl
            have hfz28_0 := blk_frozen BK591.out 0
            go_upto_region 10 with (first | ((with_reducible refine gate_callee (f := 37) rfl ?_); refine goesL_ (some 62) rfl rfl Tryd.func37 (by kernel_rfl) rfl #[.agg #[.slice A0_0 l0_0.length c0_0]] rfl (by (try simp only [List.map_toArray, List.map_cons, List.map_nil]); first | done | rfl | (simp only [List.length_drop, List.length_take]; rfl)) ?_; (with_reducible refine (pack_Steepest.calls kj8 _ _ l0_0 t597 t598 _ ?side1 ?side2 A26.out).mono ?_); (case side1 => repeat (first | exact (Kd.C_below HR0_0.out HB.out) | (with_reducible refine Kd.C_alloc ?_ _) | (with_reducible refine Kd.C_drewN ?_ _) | (with_reducible refine Kd.C_drew ?_))); (case side2 => exact HC0_0.out); rintro e w29 ⟨rfl, hb⟩; refine ⟨_, rfl, ?_⟩; have n0_ := Aside0.mk (blk_below (g := gb591) (o := .cells #[.slice A0_0 l0_0.length c0_0] 24 (0, 0)) (by (with_reducible repeat (first | refine blk_drewN ?_ _ | refine blk_drew ?_ | refine blk_alloc ?_ _)); exact BK591.out) hb); have n1_ := Aside0.mk (below_step (by repeat (first | (with_reducible first | exact HB.out | apply below_alloc | apply pw_below_drewN | apply below_drew1 | refine below_set ?_ GE591.out) | exact HB.out)) hb); clear BK591; clear HB; have BK591 := n0_; have HB := n1_; clear n0_ n1_; (try clear hb); (try clear hb2); (try clear hk); (try clear hi)))
            (try simp only [Act.put, List.setIfInBounds_toArray, List.set_cons_zero, List.set_cons_succ])
            go_cut [81] (fun v81 wc => ∃ (kq : Nat) (x81_26 : Bool), v81 = .bool x81_26 ∧ Aside0 (snowlinelaw02_PackSlopes.j1 kq a1 t593 x81_26 l0_0 = some r) ∧ Aside0 (kq ≤ kj8) ∧ Aside0 (wc.heap[gb591]? = some (.cells #[(.slice A0_0 l0_0.length c0_0)] 24 (0, 0))) ∧ Aside0 (Below w.heap.size w wc))
            case first =>
              have H := HC27.out
              clear HC27
              by_cases c30 : t598 = 0
              · rw [if_pos c30] at H
                have c30b0 : (t598 == 0) = true := beq_iff_eq.mpr c30
                have c30b1 : (t598 != 0) = false := bne_eq_false_iff_eq.mpr c30
                clear c30
                (first | rw [c30b0] | (simp only [i64_w, i32_w]; rw [c30b0]) | skip)
                by_cases c31 : t597 < 25
                · rw [if_pos c31] at H
                  have c31b0 : decide (t597 < 25) = true := decide_eq_true c31
                  clear c31
                  have H' := Aside0.mk H
                  clear H
                  go_wp2
                  go_meet
                  case rel => exact ⟨_, (true), (by first | rfl | (simp; done) | (simp [*]; done)), H', ⟨by have := HJ8.out; first | omega | exact Nat.le_refl _⟩, ⟨by (with_reducible repeat (first | refine blk_drewN ?_ _ | refine blk_drew ?_ | refine blk_alloc ?_ _)); exact BK591.out⟩, ⟨by repeat (first | (with_reducible first | exact HB.out | apply below_alloc | apply pw_below_drewN | apply below_drew1 | refine below_set ?_ GE591.out) | exact HB.out)⟩⟩
                · rw [if_neg c31] at H
                  have c31b0 : decide (t597 < 25) = false := decide_eq_false c31
                  clear c31
                  by_cases c32 : t597 > 60
                  · rw [if_pos c32] at H
                    have c32b0 : decide (60 < t597) = true := decide_eq_true c32
                    clear c32
                    have H' := Aside0.mk H
                    clear H
                    go_wp2
                    go_meet
                    case rel => exact ⟨_, (true), (by first | rfl | (simp; done) | (simp [*]; done)), H', ⟨by have := HJ8.out; first | omega | exact Nat.le_refl _⟩, ⟨by (with_reducible repeat (first | refine blk_drewN ?_ _ | refine blk_drew ?_ | refine blk_alloc ?_ _)); exact BK591.out⟩, ⟨by repeat (first | (with_reducible first | exact HB.out | apply below_alloc | apply pw_below_drewN | apply below_drew1 | refine below_set ?_ GE591.out) | exact HB.out)⟩⟩
                  · rw [if_neg c32] at H
                    have c32b0 : decide (60 < t597) = false := decide_eq_false c32
                    clear c32
                    have H' := Aside0.mk H
                    clear H
                    go_wp2
                    go_meet
                    case rel => exact ⟨_, ((t593 != (decide (a1 > t597)))), (by first | rfl | (simp; done) | (simp [*]; done)), H', ⟨by have := HJ8.out; first | omega | exact Nat.le_refl _⟩, ⟨by (with_reducible repeat (first | refine blk_drewN ?_ _ | refine blk_drew ?_ | refine blk_alloc ?_ _)); exact BK591.out⟩, ⟨by repeat (first | (with_reducible first | exact HB.out | apply below_alloc | apply pw_below_drewN | apply below_drew1 | refine below_set ?_ GE591.out) | exact HB.out)⟩⟩
              · rw [if_neg c30] at H
                have c30b0 : (t598 == 0) = false := beq_eq_false_iff_ne.mpr c30
                have c30b1 : (t598 != 0) = true := bne_iff_ne.mpr c30
                (first | rw [c30b0] | (simp only [i64_w, i32_w]; rw [c30b0]) | skip)
                have H' := Aside0.mk H
                clear H
                go_wp2
                go_meet
                case rel => exact ⟨_, (true), (by first | rfl | (simp; done) | (simp [*]; done)), H', ⟨by have := HJ8.out; first | omega | exact Nat.le_refl _⟩, ⟨by (with_reducible repeat (first | refine blk_drewN ?_ _ | refine blk_drew ?_ | refine blk_alloc ?_ _)); exact BK591.out⟩, ⟨by repeat (first | (with_reducible first | exact HB.out | apply below_alloc | apply pw_below_drewN | apply below_drew1 | refine below_set ?_ GE591.out) | exact HB.out)⟩⟩
            case rest =>
              clear HC27
              try clear c1
              try clear c2
              try clear p2
              try clear c3
              try clear c5
              try clear c7
              try clear c7b0
              try clear c7b1
              try clear c10
              try clear c16
              try clear c16b0
              try clear c16b1
              try clear c17
              try clear c17b0
              try clear c18
              try clear c19
              try clear c20
              try clear c20b0
              try clear c21
              try clear c21b0
              try clear c22
              try clear c23
              try clear c23b0
              try clear c24
              try clear c25
              try clear c30
              try clear c30b0
              try clear c30b1
              try clear c31
              try clear c31b0
              try clear c32
              try clear c32b0
              try clear hcz12_0
              try clear hcz14_0
              try clear hcz28_0
              try clear hfz12_0
              try clear hfz14_0
              try clear hfz28_0
              try clear p2
              obtain ⟨kq, x81_26, rfl, HA, HJ26, BK591, HB⟩ := hcut
              cases kq with
              | zero => exact absurd HA.out (by simp [snowlinelaw02_PackSlopes.j1])
              | succ kj26 =>
                have H := HA.out
                clear HA
                simp only [snowlinelaw02_PackSlopes.j1] at H
                by_cases c33 : x81_26 = true
                · subst c33
                  have H1 : (some false) = some r := by rw [if_pos rfl] at H; exact H
                  clear H
                  have H := H1
                  clear H1
                  obtain rfl := Option.some.inj H
                  go_wp2
                  go_ret
                  exact ⟨by first | rfl | (simp [errW_none, errW_some] <;> rfl) | (simp [*, errW_none, errW_some] <;> rfl), by repeat (first | (with_reducible first | exact HB.out | apply below_alloc | apply pw_below_drewN | apply below_drew1 | refine below_set ?_ GE591.out) | exact HB.out)⟩
                · replace c33 := Bool.eq_false_iff.mpr c33
                  subst c33
                  have H1 : ((pack_Weakest.f l0_0).bind fun bt599 => (if bt599.2.2 = 0 then (if bt599.1 < 0 then (some false) else (if bt599.1 ≥ (l0_0.length : Int) then (some false) else (if 0 ≤ bt599.1 then (if bt599.1 < (l0_0.length : Int) then ((snowlineref02_Strength.f ((rd_T48 l0_0 bt599.1).f0) ((rd_T48 l0_0 bt599.1).f1) ((rd_T48 l0_0 bt599.1).f2)).bind fun t603 => (some (t593 == (decide ((wrap64 (bt599.2.1 * (wrap64 (a1 - 25)))) > (wrap64 (3 * t603))))))) else (none)) else (none)))) else (if bt599.2.2 = 4 then (if (l0_0.length : Int) = 0 then (some (!t593)) else (some false)) else (some false)))) = some r := by rw [if_neg (show ¬ (false = true) by decide)] at H; exact H
                  clear H
                  have H := H1
                  clear H1
                  replace H := Option.bind_eq_some_iff.mp H
                  obtain ⟨⟨t599, t600, t601⟩, A340, H⟩ := H
                  replace H : (if t601 = 0 then (if t599 < 0 then (some false) else (if t599 ≥ (l0_0.length : Int) then (some false) else (if 0 ≤ t599 then (if t599 < (l0_0.length : Int) then ((snowlineref02_Strength.f ((rd_T48 l0_0 t599).f0) ((rd_T48 l0_0 t599).f1) ((rd_T48 l0_0 t599).f2)).bind fun t603 => (some (t593 == (decide ((wrap64 (t600 * (wrap64 (a1 - 25)))) > (wrap64 (3 * t603))))))) else (none)) else (none)))) else (if t601 = 4 then (if (l0_0.length : Int) = 0 then (some (!t593)) else (some false)) else (some false))) = some r := H
                  have A34 := Aside0.mk A340
                  clear A340
                  by_cases c35 : t601 = 0
                  · rw [if_pos c35] at H
                    have c35b0 : (t601 == 0) = true := beq_iff_eq.mpr c35
                    have c35b1 : (t601 != 0) = false := bne_eq_false_iff_eq.mpr c35
                    clear c35
                    by_cases c36 : t599 < 0
                    · rw [if_pos c36] at H
                      have c36b0 : decide (t599 < 0) = true := decide_eq_true c36
                      clear c36
                      obtain rfl := Option.some.inj H
                      have hcz37_0 : wc.cell? ⟨gb591, 0, none⟩ = some (.slice A0_0 l0_0.length c0_0) := (blk_cell BK591.out 0).trans rfl
                      have hfz37_0 := blk_frozen BK591.out 0
                      go_wp2_with (first | ((with_reducible refine gate_callee (f := 33) rfl ?_); refine goesL_ (some 84) rfl rfl Tryd.func33 (by kernel_rfl) rfl #[.agg #[.slice A0_0 l0_0.length c0_0]] rfl (by (try simp only [List.map_toArray, List.map_cons, List.map_nil]); first | done | rfl | (simp only [List.length_drop, List.length_take]; rfl)) ?_; (with_reducible refine (pack_Weakest.calls _ _ l0_0 t599 t600 t601 _ ?side1 ?side2 A34.out).mono ?_); (case side1 => repeat (first | exact (Kd.C_below HR0_0.out HB.out) | (with_reducible refine Kd.C_alloc ?_ _) | (with_reducible refine Kd.C_drewN ?_ _) | (with_reducible refine Kd.C_drew ?_))); (case side2 => exact HC0_0.out); rintro e w38 ⟨rfl, hb⟩; refine ⟨_, rfl, ?_⟩; have n0_ := Aside0.mk (blk_below (g := gb591) (o := .cells #[.slice A0_0 l0_0.length c0_0] 24 (0, 0)) (by (with_reducible repeat (first | refine blk_drewN ?_ _ | refine blk_drew ?_ | refine blk_alloc ?_ _)); exact BK591.out) hb); have n1_ := Aside0.mk (below_step (by repeat (first | (with_reducible first | exact HB.out | apply below_alloc | apply pw_below_drewN | apply below_drew1 | refine below_set ?_ GE591.out) | exact HB.out)) hb); clear BK591; clear HB; have BK591 := n0_; have HB := n1_; clear n0_ n1_; (try clear hb); (try clear hb2); (try clear hk); (try clear hi)))
                      go_ret
                      exact ⟨by first | rfl | (simp [errW_none, errW_some] <;> rfl) | (simp [*, errW_none, errW_some] <;> rfl), by repeat (first | (with_reducible first | exact HB.out | apply below_alloc | apply pw_below_drewN | apply below_drew1 | refine below_set ?_ GE591.out) | exact HB.out)⟩
                    · rw [if_neg c36] at H
                      have c36b0 : decide (t599 < 0) = false := decide_eq_false c36
                      clear c36
                      by_cases c39 : t599 ≥ (l0_0.length : Int)
                      · rw [if_pos c39] at H
                        have c39b0 : decide ((l0_0.length : Int) ≤ t599) = true := decide_eq_true c39
                        clear c39
                        obtain rfl := Option.some.inj H
                        have hcz40_0 : wc.cell? ⟨gb591, 0, none⟩ = some (.slice A0_0 l0_0.length c0_0) := (blk_cell BK591.out 0).trans rfl
                        have hfz40_0 := blk_frozen BK591.out 0
                        go_wp2_with (first | ((with_reducible refine gate_callee (f := 33) rfl ?_); refine goesL_ (some 84) rfl rfl Tryd.func33 (by kernel_rfl) rfl #[.agg #[.slice A0_0 l0_0.length c0_0]] rfl (by (try simp only [List.map_toArray, List.map_cons, List.map_nil]); first | done | rfl | (simp only [List.length_drop, List.length_take]; rfl)) ?_; (with_reducible refine (pack_Weakest.calls _ _ l0_0 t599 t600 t601 _ ?side1 ?side2 A34.out).mono ?_); (case side1 => repeat (first | exact (Kd.C_below HR0_0.out HB.out) | (with_reducible refine Kd.C_alloc ?_ _) | (with_reducible refine Kd.C_drewN ?_ _) | (with_reducible refine Kd.C_drew ?_))); (case side2 => exact HC0_0.out); rintro e w41 ⟨rfl, hb⟩; refine ⟨_, rfl, ?_⟩; have n0_ := Aside0.mk (blk_below (g := gb591) (o := .cells #[.slice A0_0 l0_0.length c0_0] 24 (0, 0)) (by (with_reducible repeat (first | refine blk_drewN ?_ _ | refine blk_drew ?_ | refine blk_alloc ?_ _)); exact BK591.out) hb); have n1_ := Aside0.mk (below_step (by repeat (first | (with_reducible first | exact HB.out | apply below_alloc | apply pw_below_drewN | apply below_drew1 | refine below_set ?_ GE591.out) | exact HB.out)) hb); clear BK591; clear HB; have BK591 := n0_; have HB := n1_; clear n0_ n1_; (try clear hb); (try clear hb2); (try clear hk); (try clear hi); have hcz42_0 : w41.cell? ⟨gb591, 0, none⟩ = some (.slice A0_0 l0_0.length c0_0) := (blk_cell BK591.out 0).trans rfl; have hfz42_0 := blk_frozen BK591.out 0))
                        go_ret
                        exact ⟨by first | rfl | (simp [errW_none, errW_some] <;> rfl) | (simp [*, errW_none, errW_some] <;> rfl), by repeat (first | (with_reducible first | exact HB.out | apply below_alloc | apply pw_below_drewN | apply below_drew1 | refine below_set ?_ GE591.out) | exact HB.out)⟩
                      · rw [if_neg c39] at H
                        have c39b0 : decide ((l0_0.length : Int) ≤ t599) = false := decide_eq_false c39
                        clear c39
                        by_cases c43 : 0 ≤ t599
                        · rw [if_pos c43] at H
                          have c43b0 : decide (0 ≤ t599) = true := decide_eq_true c43
                          clear c43
                          by_cases c44 : t599 < (l0_0.length : Int)
                          · rw [if_pos c44] at H
                            have c44b0 : decide (t599 < (l0_0.length : Int)) = true := decide_eq_true c44
                            clear c44
                            replace H := Option.bind_eq_some_iff.mp H
                            obtain ⟨t603, A450, H⟩ := H
                            replace H : (some (t593 == (decide ((wrap64 (t600 * (wrap64 (a1 - 25)))) > (wrap64 (3 * t603)))))) = some r := H
                            have A45 := Aside0.mk A450
                            clear A450
                            obtain rfl := Option.some.inj H
                            have hcz46_0 : wc.cell? ⟨gb591, 0, none⟩ = some (.slice A0_0 l0_0.length c0_0) := (blk_cell BK591.out 0).trans rfl
                            have hfz46_0 := blk_frozen BK591.out 0
                            go_wp2_with (first | ((with_reducible refine gate_callee (f := 33) rfl ?_); refine goesL_ (some 84) rfl rfl Tryd.func33 (by kernel_rfl) rfl #[.agg #[.slice A0_0 l0_0.length c0_0]] rfl (by (try simp only [List.map_toArray, List.map_cons, List.map_nil]); first | done | rfl | (simp only [List.length_drop, List.length_take]; rfl)) ?_; (with_reducible refine (pack_Weakest.calls _ _ l0_0 t599 t600 t601 _ ?side1 ?side2 A34.out).mono ?_); (case side1 => repeat (first | exact (Kd.C_below HR0_0.out HB.out) | (with_reducible refine Kd.C_alloc ?_ _) | (with_reducible refine Kd.C_drewN ?_ _) | (with_reducible refine Kd.C_drew ?_))); (case side2 => exact HC0_0.out); rintro e w47 ⟨rfl, hb⟩; refine ⟨_, rfl, ?_⟩; have n0_ := Aside0.mk (blk_below (g := gb591) (o := .cells #[.slice A0_0 l0_0.length c0_0] 24 (0, 0)) (by (with_reducible repeat (first | refine blk_drewN ?_ _ | refine blk_drew ?_ | refine blk_alloc ?_ _)); exact BK591.out) hb); have n1_ := Aside0.mk (below_step (by repeat (first | (with_reducible first | exact HB.out | apply below_alloc | apply pw_below_drewN | apply below_drew1 | refine below_set ?_ GE591.out) | exact HB.out)) hb); clear BK591; clear HB; have BK591 := n0_; have HB := n1_; clear n0_ n1_; (try clear hb); (try clear hb2); (try clear hk); (try clear hi); have hcz48_0 : w47.cell? ⟨gb591, 0, none⟩ = some (.slice A0_0 l0_0.length c0_0) := (blk_cell BK591.out 0).trans rfl; have hfz48_0 := blk_frozen BK591.out 0; have p602 : 0 ≤ (t599 : Int) := of_decide_eq_true (by first | (with_reducible assumption) | assumption); have q602 : t599 < (l0_0.length : Int) := of_decide_eq_true (by first | (with_reducible assumption) | assumption); obtain ⟨ad602, e602, hx602_0, hx602_1, hx602_2⟩ := at_T48 HR0_0.out t599 p602 q602; cases e602; replace hx602_0 := (HB.out.cell (World.block_lt_of_cell? w _ hx602_0)).trans hx602_0; replace hx602_1 := (HB.out.cell (World.block_lt_of_cell? w _ hx602_1)).trans hx602_1; replace hx602_2 := (HB.out.cell (World.block_lt_of_cell? w _ hx602_2)).trans hx602_2; replace p602 := eq_true p602; replace q602 := eq_true q602) | ((with_reducible refine gate_callee (f := 39) rfl ?_); refine goesL_ (some 121) rfl rfl Tryd.func39 (by kernel_rfl) rfl #[.agg #[.int .i64 ((rd_T48 l0_0 t599).f0), .int .i64 ((rd_T48 l0_0 t599).f1), .int .i64 ((rd_T48 l0_0 t599).f2)]] rfl (by (try simp only [List.map_toArray, List.map_cons, List.map_nil]); first | done | rfl | (simp only [List.length_drop, List.length_take]; rfl)) ?_; (with_reducible refine (snowlineref02_Strength.calls ((rd_T48 l0_0 t599).f0) ((rd_T48 l0_0 t599).f1) ((rd_T48 l0_0 t599).f2) t603 _ A45.out).mono ?_); rintro e w49 ⟨rfl, hb⟩; refine ⟨_, rfl, ?_⟩; have n0_ := Aside0.mk (blk_below (g := gb591) (o := .cells #[.slice (some ad602) l0_0.length c0_0] 24 (0, 0)) (by (with_reducible repeat (first | refine blk_drewN ?_ _ | refine blk_drew ?_ | refine blk_alloc ?_ _)); exact BK591.out) hb); have n1_ := Aside0.mk (below_step (by repeat (first | (with_reducible first | exact HB.out | apply below_alloc | apply pw_below_drewN | apply below_drew1 | refine below_set ?_ GE591.out) | exact HB.out)) hb); clear BK591; clear HB; have BK591 := n0_; have HB := n1_; clear n0_ n1_; (try clear hb); (try clear hb2); (try clear hk); (try clear hi)))
                            go_ret
                            exact ⟨by first | rfl | (simp [errW_none, errW_some] <;> rfl) | (simp [*, errW_none, errW_some] <;> rfl), by repeat (first | (with_reducible first | exact HB.out | apply below_alloc | apply pw_below_drewN | apply below_drew1 | refine below_set ?_ GE591.out) | exact HB.out)⟩
                          · rw [if_neg c44] at H
                            exact absurd H (by simp)
                        · rw [if_neg c43] at H
                          exact absurd H (by simp)
                  · rw [if_neg c35] at H
                    have c35b0 : (t601 == 0) = false := beq_eq_false_iff_ne.mpr c35
                    have c35b1 : (t601 != 0) = true := bne_iff_ne.mpr c35
                    by_cases c50 : t601 = 4
                    · rw [if_pos c50] at H
                      have c50b0 : (t601 == 4) = true := beq_iff_eq.mpr c50
                      have c50b1 : (t601 != 4) = false := bne_eq_false_iff_eq.mpr c50
                      clear c50
                      by_cases c51 : (l0_0.length : Int) = 0
                      · rw [if_pos c51] at H
                        have c51b0 : ((l0_0.length : Int) == 0) = true := beq_iff_eq.mpr c51
                        have c51b1 : ((l0_0.length : Int) != 0) = false := bne_eq_false_iff_eq.mpr c51
                        clear c51
                        obtain rfl := Option.some.inj H
                        have hcz52_0 : wc.cell? ⟨gb591, 0, none⟩ = some (.slice A0_0 l0_0.length c0_0) := (blk_cell BK591.out 0).trans rfl
                        have hfz52_0 := blk_frozen BK591.out 0
                        go_wp2_with (first | ((with_reducible refine gate_callee (f := 33) rfl ?_); refine goesL_ (some 84) rfl rfl Tryd.func33 (by kernel_rfl) rfl #[.agg #[.slice A0_0 l0_0.length c0_0]] rfl (by (try simp only [List.map_toArray, List.map_cons, List.map_nil]); first | done | rfl | (simp only [List.length_drop, List.length_take]; rfl)) ?_; (with_reducible refine (pack_Weakest.calls _ _ l0_0 t599 t600 t601 _ ?side1 ?side2 A34.out).mono ?_); (case side1 => repeat (first | exact (Kd.C_below HR0_0.out HB.out) | (with_reducible refine Kd.C_alloc ?_ _) | (with_reducible refine Kd.C_drewN ?_ _) | (with_reducible refine Kd.C_drew ?_))); (case side2 => exact HC0_0.out); rintro e w53 ⟨rfl, hb⟩; refine ⟨_, rfl, ?_⟩; have n0_ := Aside0.mk (blk_below (g := gb591) (o := .cells #[.slice A0_0 l0_0.length c0_0] 24 (0, 0)) (by (with_reducible repeat (first | refine blk_drewN ?_ _ | refine blk_drew ?_ | refine blk_alloc ?_ _)); exact BK591.out) hb); have n1_ := Aside0.mk (below_step (by repeat (first | (with_reducible first | exact HB.out | apply below_alloc | apply pw_below_drewN | apply below_drew1 | refine below_set ?_ GE591.out) | exact HB.out)) hb); clear BK591; clear HB; have BK591 := n0_; have HB := n1_; clear n0_ n1_; (try clear hb); (try clear hb2); (try clear hk); (try clear hi); have hcz54_0 : w53.cell? ⟨gb591, 0, none⟩ = some (.slice A0_0 l0_0.length c0_0) := (blk_cell BK591.out 0).trans rfl; have hfz54_0 := blk_frozen BK591.out 0))
                        go_ret
                        exact ⟨by first | rfl | (simp [errW_none, errW_some] <;> rfl) | (simp [*, errW_none, errW_some] <;> rfl), by repeat (first | (with_reducible first | exact HB.out | apply below_alloc | apply pw_below_drewN | apply below_drew1 | refine below_set ?_ GE591.out) | exact HB.out)⟩
                      · rw [if_neg c51] at H
                        have c51b0 : ((l0_0.length : Int) == 0) = false := beq_eq_false_iff_ne.mpr c51
                        have c51b1 : ((l0_0.length : Int) != 0) = true := bne_iff_ne.mpr c51
                        have c51b2 : ¬ (l0_0 = []) := fun h_ => c51 (by rw [h_]; rfl)
                        obtain rfl := Option.some.inj H
                        have hcz55_0 : wc.cell? ⟨gb591, 0, none⟩ = some (.slice A0_0 l0_0.length c0_0) := (blk_cell BK591.out 0).trans rfl
                        have hfz55_0 := blk_frozen BK591.out 0
                        go_wp2_with (first | ((with_reducible refine gate_callee (f := 33) rfl ?_); refine goesL_ (some 84) rfl rfl Tryd.func33 (by kernel_rfl) rfl #[.agg #[.slice A0_0 l0_0.length c0_0]] rfl (by (try simp only [List.map_toArray, List.map_cons, List.map_nil]); first | done | rfl | (simp only [List.length_drop, List.length_take]; rfl)) ?_; (with_reducible refine (pack_Weakest.calls _ _ l0_0 t599 t600 t601 _ ?side1 ?side2 A34.out).mono ?_); (case side1 => repeat (first | exact (Kd.C_below HR0_0.out HB.out) | (with_reducible refine Kd.C_alloc ?_ _) | (with_reducible refine Kd.C_drewN ?_ _) | (with_reducible refine Kd.C_drew ?_))); (case side2 => exact HC0_0.out); rintro e w56 ⟨rfl, hb⟩; refine ⟨_, rfl, ?_⟩; have n0_ := Aside0.mk (blk_below (g := gb591) (o := .cells #[.slice A0_0 l0_0.length c0_0] 24 (0, 0)) (by (with_reducible repeat (first | refine blk_drewN ?_ _ | refine blk_drew ?_ | refine blk_alloc ?_ _)); exact BK591.out) hb); have n1_ := Aside0.mk (below_step (by repeat (first | (with_reducible first | exact HB.out | apply below_alloc | apply pw_below_drewN | apply below_drew1 | refine below_set ?_ GE591.out) | exact HB.out)) hb); clear BK591; clear HB; have BK591 := n0_; have HB := n1_; clear n0_ n1_; (try clear hb); (try clear hb2); (try clear hk); (try clear hi); have hcz57_0 : w56.cell? ⟨gb591, 0, none⟩ = some (.slice A0_0 l0_0.length c0_0) := (blk_cell BK591.out 0).trans rfl; have hfz57_0 := blk_frozen BK591.out 0))
                        go_ret
                        exact ⟨by first | rfl | (simp [errW_none, errW_some] <;> rfl) | (simp [*, errW_none, errW_some] <;> rfl), by repeat (first | (with_reducible first | exact HB.out | apply below_alloc | apply pw_below_drewN | apply below_drew1 | refine below_set ?_ GE591.out) | exact HB.out)⟩
                    · rw [if_neg c50] at H
                      have c50b0 : (t601 == 4) = false := beq_eq_false_iff_ne.mpr c50
                      have c50b1 : (t601 != 4) = true := bne_iff_ne.mpr c50
                      obtain rfl := Option.some.inj H
                      have hcz58_0 : wc.cell? ⟨gb591, 0, none⟩ = some (.slice A0_0 l0_0.length c0_0) := (blk_cell BK591.out 0).trans rfl
                      have hfz58_0 := blk_frozen BK591.out 0
                      go_wp2_with (first | ((with_reducible refine gate_callee (f := 33) rfl ?_); refine goesL_ (some 84) rfl rfl Tryd.func33 (by kernel_rfl) rfl #[.agg #[.slice A0_0 l0_0.length c0_0]] rfl (by (try simp only [List.map_toArray, List.map_cons, List.map_nil]); first | done | rfl | (simp only [List.length_drop, List.length_take]; rfl)) ?_; (with_reducible refine (pack_Weakest.calls _ _ l0_0 t599 t600 t601 _ ?side1 ?side2 A34.out).mono ?_); (case side1 => repeat (first | exact (Kd.C_below HR0_0.out HB.out) | (with_reducible refine Kd.C_alloc ?_ _) | (with_reducible refine Kd.C_drewN ?_ _) | (with_reducible refine Kd.C_drew ?_))); (case side2 => exact HC0_0.out); rintro e w59 ⟨rfl, hb⟩; refine ⟨_, rfl, ?_⟩; have n0_ := Aside0.mk (blk_below (g := gb591) (o := .cells #[.slice A0_0 l0_0.length c0_0] 24 (0, 0)) (by (with_reducible repeat (first | refine blk_drewN ?_ _ | refine blk_drew ?_ | refine blk_alloc ?_ _)); exact BK591.out) hb); have n1_ := Aside0.mk (below_step (by repeat (first | (with_reducible first | exact HB.out | apply below_alloc | apply pw_below_drewN | apply below_drew1 | refine below_set ?_ GE591.out) | exact HB.out)) hb); clear BK591; clear HB; have BK591 := n0_; have HB := n1_; clear n0_ n1_; (try clear hb); (try clear hb2); (try clear hk); (try clear hi)))
                      go_ret
                      exact ⟨by first | rfl | (simp [errW_none, errW_some] <;> rfl) | (simp [*, errW_none, errW_some] <;> rfl), by repeat (first | (with_reducible first | exact HB.out | apply below_alloc | apply pw_below_drewN | apply below_drew1 | refine below_set ?_ GE591.out) | exact HB.out)⟩
    · rw [if_neg c7] at H
      have c7b0 : (t594 == 0) = false := beq_eq_false_iff_ne.mpr c7
      have c7b1 : (t594 != 0) = true := bne_iff_ne.mpr c7
      obtain rfl := Option.some.inj H
      go_enter Tryd.func10, Tryd.ntmps10
      go_wp2_with (first | ((with_reducible refine gate_dst (N := 3) rfl ?_); (try (refine gate_guard (by rfl) ?_; dsimp only)); refine box_event ?hg (N := 3) ?hd (cs := #[.slice A0_0 l0_0.length c0_0]) (t := 24) ?hr ?_; (case hd => rfl); (case hg => rfl); (case hr => first | (go_simp; done) | (go_simp; rfl)); intro gb591 hg w60 hbox hb; have n0_ := Aside0.mk (below_step (by repeat (first | (with_reducible first | exact HB.out | apply below_alloc | apply pw_below_drewN | apply below_drew1) | exact HB.out)) hb); have n1_ := Aside0.mk (hbox); have n2_ := Aside0.mk ((by rw [hg]; exact (below_size (by repeat (first | (with_reducible first | exact HB.out | apply below_alloc | apply pw_below_drewN | apply below_drew1) | exact HB.out))) : w.heap.size ≤ gb591)); have n3_ := Aside0.mk ((by rw [hg]; exact (below_size (by repeat (first | (with_reducible first | exact HB.out | apply below_alloc | apply pw_below_drewN | apply below_drew1) | exact HB.out))) : w.heap.size ≤ gb591)); clear HB; have HB := n0_; have BK591 := n1_; have GW591 := n2_; have GE591 := n3_; clear n0_ n1_ n2_ n3_; clear hb hbox hg) | ((with_reducible refine gate_callee (f := 18) rfl ?_); refine goesL_ (some 16) rfl rfl Tryd.func18 (by kernel_rfl) rfl #[] rfl (by (try simp only [List.map_toArray, List.map_cons, List.map_nil]); first | done | rfl | (simp only [List.length_drop, List.length_take]; rfl)) ?_; (with_reducible refine (snowlinelaw02_sane.calls k  true _ ?hgl_ A4.out).mono ?_); (case hgl_ => exact HGl.out.below (by repeat (first | (with_reducible first | exact HB.out | apply below_alloc | apply pw_below_drewN | apply below_drew1 | refine below_set ?_ GE591.out) | exact HB.out)) (Nat.le_refl _)); rintro e w61 ⟨rfl, hb⟩; refine ⟨_, rfl, ?_⟩; have n0_ := Aside0.mk (blk_below (g := gb591) (o := .cells #[.slice A0_0 l0_0.length c0_0] 24 (0, 0)) (by (with_reducible repeat (first | refine blk_drewN ?_ _ | refine blk_drew ?_ | refine blk_alloc ?_ _)); exact BK591.out) hb); have n1_ := Aside0.mk (below_step (by repeat (first | (with_reducible first | exact HB.out | apply below_alloc | apply pw_below_drewN | apply below_drew1 | refine below_set ?_ GE591.out) | exact HB.out)) hb); clear BK591; clear HB; have BK591 := n0_; have HB := n1_; clear n0_ n1_; (try clear hb); (try clear hb2); (try clear hk); (try clear hi); have hcz62_0 : w61.cell? ⟨gb591, 0, none⟩ = some (.slice A0_0 l0_0.length c0_0) := (blk_cell BK591.out 0).trans rfl; have hfz62_0 := blk_frozen BK591.out 0) | ((with_reducible refine gate_callee (f := 35) rfl ?_); refine goesL_ (some 21) rfl rfl Tryd.func35 (by kernel_rfl) rfl #[.agg #[.slice A0_0 l0_0.length c0_0], .int .i64 a1] rfl (by (try simp only [List.map_toArray, List.map_cons, List.map_nil]); first | done | rfl | (simp only [List.length_drop, List.length_take]; rfl)) ?_; (with_reducible refine (pack_Breaks.calls k _ _ l0_0 a1 t593 t594 _ ?side1 ?side2 A6.out).mono ?_); (case side1 => repeat (first | exact (Kd.C_below HR0_0.out HB.out) | (with_reducible refine Kd.C_alloc ?_ _) | (with_reducible refine Kd.C_drewN ?_ _) | (with_reducible refine Kd.C_drew ?_))); (case side2 => exact HC0_0.out); rintro e w63 ⟨rfl, hb⟩; refine ⟨_, rfl, ?_⟩; have n0_ := Aside0.mk (blk_below (g := gb591) (o := .cells #[.slice A0_0 l0_0.length c0_0] 24 (0, 0)) (by (with_reducible repeat (first | refine blk_drewN ?_ _ | refine blk_drew ?_ | refine blk_alloc ?_ _)); exact BK591.out) hb); have n1_ := Aside0.mk (below_step (by repeat (first | (with_reducible first | exact HB.out | apply below_alloc | apply pw_below_drewN | apply below_drew1 | refine below_set ?_ GE591.out) | exact HB.out)) hb); clear BK591; clear HB; have BK591 := n0_; have HB := n1_; clear n0_ n1_; (try clear hb); (try clear hb2); (try clear hk); (try clear hi)))
      go_ret
      exact ⟨by first | rfl | (simp [errW_none, errW_some] <;> rfl) | (simp [*, errW_none, errW_some] <;> rfl), by repeat (first | (with_reducible first | exact HB.out | apply below_alloc | apply pw_below_drewN | apply below_drew1 | refine below_set ?_ GE591.out) | exact HB.out)⟩
  · replace c5 := Bool.eq_false_iff.mpr c5
    subst c5
    have H1 : (some false) = some r := by rw [if_neg (show ¬ (false = true) by decide)] at H; exact H
    clear H
    have H := H1
    clear H1
    obtain rfl := Option.some.inj H
    go_enter Tryd.func10, Tryd.ntmps10
    go_wp2_with (first | ((with_reducible refine gate_dst (N := 3) rfl ?_); (try (refine gate_guard (by rfl) ?_; dsimp only)); refine box_event ?hg (N := 3) ?hd (cs := #[.slice A0_0 l0_0.length c0_0]) (t := 24) ?hr ?_; (case hd => rfl); (case hg => rfl); (case hr => first | (go_simp; done) | (go_simp; rfl)); intro gb591 hg w64 hbox hb; have n0_ := Aside0.mk (below_step (by repeat (first | (with_reducible first | exact HB.out | apply below_alloc | apply pw_below_drewN | apply below_drew1) | exact HB.out)) hb); have n1_ := Aside0.mk (hbox); have n2_ := Aside0.mk ((by rw [hg]; exact (below_size (by repeat (first | (with_reducible first | exact HB.out | apply below_alloc | apply pw_below_drewN | apply below_drew1) | exact HB.out))) : w.heap.size ≤ gb591)); have n3_ := Aside0.mk ((by rw [hg]; exact (below_size (by repeat (first | (with_reducible first | exact HB.out | apply below_alloc | apply pw_below_drewN | apply below_drew1) | exact HB.out))) : w.heap.size ≤ gb591)); clear HB; have HB := n0_; have BK591 := n1_; have GW591 := n2_; have GE591 := n3_; clear n0_ n1_ n2_ n3_; clear hb hbox hg) | ((with_reducible refine gate_callee (f := 18) rfl ?_); refine goesL_ (some 16) rfl rfl Tryd.func18 (by kernel_rfl) rfl #[] rfl (by (try simp only [List.map_toArray, List.map_cons, List.map_nil]); first | done | rfl | (simp only [List.length_drop, List.length_take]; rfl)) ?_; (with_reducible refine (snowlinelaw02_sane.calls k  false _ ?hgl_ A4.out).mono ?_); (case hgl_ => exact HGl.out.below (by repeat (first | (with_reducible first | exact HB.out | apply below_alloc | apply pw_below_drewN | apply below_drew1 | refine below_set ?_ GE591.out) | exact HB.out)) (Nat.le_refl _)); rintro e w65 ⟨rfl, hb⟩; refine ⟨_, rfl, ?_⟩; have n0_ := Aside0.mk (blk_below (g := gb591) (o := .cells #[.slice A0_0 l0_0.length c0_0] 24 (0, 0)) (by (with_reducible repeat (first | refine blk_drewN ?_ _ | refine blk_drew ?_ | refine blk_alloc ?_ _)); exact BK591.out) hb); have n1_ := Aside0.mk (below_step (by repeat (first | (with_reducible first | exact HB.out | apply below_alloc | apply pw_below_drewN | apply below_drew1 | refine below_set ?_ GE591.out) | exact HB.out)) hb); clear BK591; clear HB; have BK591 := n0_; have HB := n1_; clear n0_ n1_; (try clear hb); (try clear hb2); (try clear hk); (try clear hi)))
    go_ret
    exact ⟨by first | rfl | (simp [errW_none, errW_some] <;> rfl) | (simp [*, errW_none, errW_some] <;> rfl), by repeat (first | (with_reducible first | exact HB.out | apply below_alloc | apply pw_below_drewN | apply below_drew1 | refine below_set ?_ GE591.out) | exact HB.out)⟩
end Go.Proofs.YtpldcikmlpegpaaDoor.PB
end
section
namespace Go.Proofs.YtpldcikmlpegpaaDoor.Plain
open Go.RowKit Go.Proofs.YtpldcikmlpegpaaDoor.PB
abbrev Ly := S48
@[ext] theorem Ly.ext' {a b : Ly} (h0 : a.f0 = b.f0) (h1 : a.f1 = b.f1) (h2 : a.f2 = b.f2) : a = b := by
  cases a; cases b; simp_all
def Fit (l : Ly) : Prop := 0 ≤ l.f0 ∧ 0 ≤ l.f1 ∧ l.f1 ≤ l.f0 / 20 ∧ 0 ≤ l.f2
def Fits (ls : List Ly) : Prop := ∀ l ∈ ls, Fit l
theorem Fits.nil : Fits [] := by intro l h; cases h
theorem Fits.cons {l : Ly} {ls : List Ly} (h : Fit l) (hs : Fits ls) : Fits (l :: ls) := by
  intro x hx
  rcases List.mem_cons.mp hx with rfl | hx
  · exact h
  · exact hs x hx
theorem Fits.head {l : Ly} {ls : List Ly} (h : Fits (l :: ls)) : Fit l := h l List.mem_cons_self
theorem Fits.tail {l : Ly} {ls : List Ly} (h : Fits (l :: ls)) : Fits ls := fun x hx => h x (List.mem_cons_of_mem _ hx)
def water : List Ly → Int
  | [] => 0
  | l :: ls => l.f0 + l.f1 + water ls
def cold : List Ly → Int
  | [] => 0
  | l :: ls => l.f2 + cold ls
theorem water_nonneg {ls : List Ly} (h : Fits ls) : 0 ≤ water ls := by
  induction ls with
  | nil => exact Int.le_refl _
  | cons l ls ih =>
    have := ih h.tail
    obtain ⟨a, b, c, d⟩ := h.head
    simp only [water]
    omega
end Go.Proofs.YtpldcikmlpegpaaDoor.Plain
end
section
namespace Go.Proofs.YtpldcikmlpegpaaDoor.Plain
open Go.RowKit Go.Proofs.YtpldcikmlpegpaaDoor.PB
def times (f : List Ly → List Ly × Int) : Nat → List Ly → List Ly × Int × Int
  | 0, L => (L, 0, 0)
  | _ + 1, [] => ([], 0, 0)
  | n + 1, l :: ls => ((times f n (f (l :: ls)).1).1, (f (l :: ls)).2 + (times f n (f (l :: ls)).1).2.1, 1 + (times f n (f (l :: ls)).1).2.2)
def Live (ls : List Ly) : Prop := ∀ l ∈ ls, Fit l ∧ 1 ≤ l.f0
theorem Live.fits {ls : List Ly} (h : Live ls) : Fits ls := fun l hl => (h l hl).1
theorem Live.nil : Live [] := by intro l h; cases h
theorem Live.cons {l : Ly} {ls : List Ly} (h : Fit l) (h1 : 1 ≤ l.f0) (hs : Live ls) : Live (l :: ls) := by
  intro x hx
  rcases List.mem_cons.mp hx with rfl | hx
  · exact ⟨h, h1⟩
  · exact hs x hx
theorem Live.head {l : Ly} {ls : List Ly} (h : Live (l :: ls)) : Fit l ∧ 1 ≤ l.f0 := h l List.mem_cons_self
theorem Live.tail {l : Ly} {ls : List Ly} (h : Live (l :: ls)) : Live ls := fun x hx => h x (List.mem_cons_of_mem _ hx)
structure Round (f : List Ly → List Ly × Int) (d : Int) : Prop where
  live : ∀ {l ls}, Live (l :: ls) → Live (f (l :: ls)).1 ∧ 0 ≤ (f (l :: ls)).2
  water : ∀ {l ls}, Live (l :: ls) → water (f (l :: ls)).1 + (f (l :: ls)).2 + d = water (l :: ls)
  cold : ∀ {l ls}, Live (l :: ls) → cold (f (l :: ls)).1 ≤ cold (l :: ls)
  len : ∀ {l ls}, Live (l :: ls) → (f (l :: ls)).1.length ≤ (l :: ls).length
section
variable {f : List Ly → List Ly × Int} {d : Int}
end
def freezes : List Ly → Int → List Ly × Int
  | [], m => ([], m)
  | l :: ls, m => (⟨l.f0 + min m l.f1, l.f1 - min m l.f1, l.f2⟩ :: (freezes ls (m - min m l.f1)).1, (freezes ls (m - min m l.f1)).2)
def chill : List Ly → Int → List Ly
  | [], _ => []
  | l :: ls, m => ⟨l.f0, l.f1, l.f2 + m⟩ :: ls
def freeze (ls : List Ly) (m : Int) : List Ly := chill (freezes ls m).1 (freezes ls m).2
end Go.Proofs.YtpldcikmlpegpaaDoor.Plain
end
section
namespace Go.Proofs.YtpldcikmlpegpaaDoor.Plain
open Go.RowKit Go.Proofs.YtpldcikmlpegpaaDoor.PB
theorem wr (x : Int) (h : -9223372036854775808 ≤ x ∧ x ≤ 9223372036854775807) : wrap64 x = x := by
  unfold wrap64
  omega
def Right (l : Ly) : Prop := 1 ≤ l.f0 ∧ l.f0 ≤ 65536 ∧ 0 ≤ l.f2 ∧ l.f2 ≤ 65536 ∧ 0 ≤ l.f1 ∧ l.f1 ≤ l.f0 / 20 ∧ (l.f1 = 0 ∨ l.f2 = 0)
instance (l : Ly) : Decidable (Right l) := inferInstanceAs (Decidable (_ ∧ _))
def Rights (ls : List Ly) : Prop := ∀ l ∈ ls, Right l
instance (ls : List Ly) : Decidable (Rights ls) := inferInstanceAs (Decidable (∀ l ∈ ls, Right l))
def Valid (ls : List Ly) : Prop := ls.length ≤ 64 ∧ Rights ls ∧ water ls ≤ 65536 ∧ cold ls ≤ 65536
instance (ls : List Ly) : Decidable (Valid ls) := inferInstanceAs (Decidable (_ ∧ _))
def checkE (ls : List Ly) : Int := if Valid ls then 0 else 20
theorem Right.live {l : Ly} (h : Right l) : Fit l ∧ 1 ≤ l.f0 := by
  obtain ⟨a, b, c, d, e, f, g⟩ := h
  unfold Fit
  omega
theorem Rights.live {ls : List Ly} (h : Rights ls) : Live ls := fun l hl => (h l hl).live
theorem Rights.head {l : Ly} {ls : List Ly} (h : Rights (l :: ls)) : Right l := h l List.mem_cons_self
theorem Rights.tail {l : Ly} {ls : List Ly} (h : Rights (l :: ls)) : Rights ls := fun x hx => h x (List.mem_cons_of_mem _ hx)
theorem Valid.live {ls : List Ly} (h : Valid ls) : Live ls := h.2.1.live
theorem from_eq (a b c : Int) : pack_from.f a b c = some (decide (b ≤ a ∧ a ≤ c)) := by
  unfold pack_from.f
  by_cases h : a ≥ b
  · rw [if_pos h]; congr 1; simp; omega
  · rw [if_neg h]; congr 1; symm; simp; omega
theorem some_true {p : Prop} [Decidable p] (h : p) : (some true : Option Bool) = some (decide p) := by rw [decide_eq_true h]
theorem some_false {p : Prop} [Decidable p] (h : ¬ p) : (some false : Option Bool) = some (decide p) := by rw [decide_eq_false h]
theorem right_eq (a b c : Int) : pack_right.f a b c = some (decide (Right ⟨a, b, c⟩)) := by
  unfold pack_right.f
  simp only [from_eq, Option.bind_some, pack_hold.f, decide_eq_true_eq]
  by_cases h1 : 1 ≤ a ∧ a ≤ 65536
  · have ht : wrap64 (Int.tdiv a 20) = a / 20 := by rw [Int.tdiv_eq_ediv_of_nonneg (by omega), wr _ (by omega)]
    rw [if_pos h1]
    by_cases h2 : 0 ≤ c ∧ c ≤ 65536
    · rw [if_pos h2, ht]
      by_cases h3 : 0 ≤ b ∧ b ≤ a / 20
      · rw [if_pos h3]
        by_cases h4 : b = 0
        · rw [if_pos h4]; exact some_true ⟨h1.1, h1.2, h2.1, h2.2, h3.1, h3.2, .inl h4⟩
        · rw [if_neg h4]
          by_cases h5 : c = 0
          · rw [show (c == 0) = true by simp [h5]]; exact some_true ⟨h1.1, h1.2, h2.1, h2.2, h3.1, h3.2, .inr h5⟩
          · rw [show (c == 0) = false by simp [h5]]; exact some_false (fun h => h.2.2.2.2.2.2.elim h4 h5)
      · rw [if_neg h3]; exact some_false (fun h => h3 ⟨h.2.2.2.2.1, h.2.2.2.2.2.1⟩)
    · rw [if_neg h2]; exact some_false (fun h => h2 ⟨h.2.2.1, h.2.2.2.1⟩)
  · rw [if_neg h1]; exact some_false (fun h => h1 ⟨h.1, h.2.1⟩)
theorem water_app (xs ys : List Ly) : water (xs ++ ys) = water xs + water ys := by
  induction xs with
  | nil => simp [water]
  | cons x xs ih => simp only [List.cons_append, water, ih]; omega
theorem rd_drop {ls : List Ly} {i : Nat} (h : i < ls.length) : ls.drop i = rd_T48 ls (i : Int) :: ls.drop (i + 1) := by
  rw [List.drop_eq_getElem_cons h]
  congr 1
  simp [rd_T48, List.getD_eq_getElem?_getD, h]
theorem sums_loop (ls : List Ly) (hr : Rights ls) (hl : ls.length ≤ 128) : ∀ (d k i : Nat) (w c : Int), i + d = ls.length → d < k → 0 ≤ w → w ≤ 131072 * (i : Int) → 0 ≤ c → c ≤ 65536 * (i : Int) →
    pack_sums.l0 k w c ls (ls.length : Int) (i : Int) = some (w + water (ls.drop i), c + cold (ls.drop i)) := by
  intro d
  induction d with
  | zero =>
    intro k i w c hi hk _ _ _ _
    obtain ⟨k, rfl⟩ : ∃ j, k = j + 1 := ⟨k - 1, by omega⟩
    unfold pack_sums.l0
    rw [if_neg (by omega), List.drop_eq_nil_of_le (by omega)]
    simp [water, cold]
  | succ d ih =>
    intro k i w c hi hk h0 h1 h2 h3
    obtain ⟨k, rfl⟩ : ∃ j, k = j + 1 := ⟨k - 1, by omega⟩
    have hm : Right (rd_T48 ls (i : Int)) := hr _ (by
      have : rd_T48 ls (i : Int) ∈ ls.drop i := by rw [rd_drop (by omega)]; exact List.mem_cons_self
      exact List.mem_of_mem_drop this)
    obtain ⟨a, b, cc, dd, e, f, g⟩ := hm
    unfold pack_sums.l0
    rw [if_pos (by omega), if_pos (by omega), if_pos (by omega)]
    rw [rd_drop (show i < ls.length by omega)]
    simp only [water, cold]
    rw [wr ((rd_T48 ls (i : Int)).f0 + _) (by omega), wr (w + _) (by omega), wr (c + _) (by omega), wr ((i : Int) + 1) (by omega)]
    have := ih k (i + 1) (w + ((rd_T48 ls (i : Int)).f0 + (rd_T48 ls (i : Int)).f1)) (c + (rd_T48 ls (i : Int)).f2) (by omega) (by omega) (by omega) (by push_cast; omega) (by omega) (by push_cast; omega)
    push_cast at this
    rw [this]
    congr 2 <;> omega
theorem sums_eq {k : Nat} {ls : List Ly} (hr : Rights ls) (hl : ls.length ≤ 128) (hk : ls.length < k) : pack_sums.f k ls = some (water ls, cold ls) := by
  unfold pack_sums.f
  have := sums_loop ls hr hl ls.length k 0 0 0 (by omega) hk (by omega) (by omega) (by omega) (by omega)
  simpa using this
theorem check_loop (ls : List Ly) (hl : ls.length ≤ 64) : ∀ (d k i : Nat), i + d = ls.length → d + 65 < k → Rights (ls.take i) →
    pack_Check.l0 k ls (ls.length : Int) (i : Int) ls = some (checkE ls) := by
  intro d
  induction d with
  | zero =>
    intro k i hi hk h
    obtain ⟨k, rfl⟩ : ∃ j, k = j + 1 := ⟨k - 1, by omega⟩
    rw [List.take_of_length_le (by omega)] at h
    unfold pack_Check.l0
    rw [if_neg (by omega), sums_eq h (by omega) (by omega)]
    simp only [Option.bind_some, checkE]
    by_cases hw : water ls > 65536
    · rw [if_pos hw, if_neg (fun hv : Valid ls => by have := hv.2.2.1; omega)]
    · rw [if_neg hw]
      by_cases hc : cold ls > 65536
      · rw [if_pos hc, if_neg (fun hv : Valid ls => by have := hv.2.2.2; omega)]
      · rw [if_neg hc, if_pos (show Valid ls from ⟨hl, h, by omega, by omega⟩)]
  | succ d ih =>
    intro k i hi hk h
    obtain ⟨k, rfl⟩ : ∃ j, k = j + 1 := ⟨k - 1, by omega⟩
    unfold pack_Check.l0
    rw [if_pos (by omega), if_pos (by omega), if_pos (by omega), right_eq]
    simp only [Option.bind_some, decide_eq_true_eq]
    have hd := rd_drop (show i < ls.length by omega)
    by_cases hr : Right (rd_T48 ls (i : Int))
    · rw [if_pos (by exact hr), wr ((i : Int) + 1) (by omega)]
      have := ih k (i + 1) (by omega) (by omega) (by
        intro x hx
        rw [List.take_add_one] at hx
        rcases List.mem_append.mp hx with hx | hx
        · exact h x hx
        · have e : ls[i]?.toList = [rd_T48 ls (i : Int)] := by
            simp [rd_T48, List.getD_eq_getElem?_getD, show i < ls.length by omega]
          rw [e] at hx
          rw [List.mem_singleton.mp hx]
          exact hr)
      push_cast at this
      exact this
    · rw [if_neg (by exact hr), checkE, if_neg]
      intro hv
      exact hr (hv.2.1 _ (by
        have : rd_T48 ls (i : Int) ∈ ls.drop i := by rw [hd]; exact List.mem_cons_self
        exact List.mem_of_mem_drop this))
theorem check_eq {k : Nat} (hk : 130 ≤ k) (ls : List Ly) : pack_Check.f k ls = some (checkE ls) := by
  unfold pack_Check.f
  by_cases h : (ls.length : Int) > 64
  · rw [if_pos h, checkE, if_neg (by rintro ⟨h1, _⟩; omega)]
  · rw [if_neg h]
    exact check_loop ls (by omega) ls.length k 0 (by omega) (by omega) (by intro x hx; simp at hx)
theorem checkE_zero {ls : List Ly} : checkE ls = 0 ↔ Valid ls := by
  unfold checkE
  split <;> simp_all
theorem checkE_pos {ls : List Ly} (h : Valid ls) : checkE ls = 0 := checkE_zero.2 h
theorem checkE_neg {ls : List Ly} (h : ¬ Valid ls) : checkE ls = 20 := if_neg h
instance : DecidableEq Ly := fun a b => decidable_of_iff (a.f0 = b.f0 ∧ a.f1 = b.f1 ∧ a.f2 = b.f2) ⟨fun h => Ly.ext' h.1 h.2.1 h.2.2, fun h => by rw [h]; exact ⟨rfl, rfl, rfl⟩⟩
end Go.Proofs.YtpldcikmlpegpaaDoor.Plain
end
section
namespace Go.Proofs.YtpldcikmlpegpaaDoor.Plain
open Go.RowKit Go.Proofs.YtpldcikmlpegpaaDoor.PB Go.Proofs.YtpldcikmlpegpaaDoor.Col Go.Proofs.YtpldcikmlpegpaaDoorW.PrintWords Go.Proofs.YtpldcikmlpegpaaDoorW.PrintMore
def St (c : C) (n : Nat) (L : List Ly) (o t : Int) : Prop :=
  c.n = n ∧ c.out = o ∧ c.taken = t ∧ ∃ pre post, c.at_ = pre ++ L ++ post ∧ pre.length = c.top ∧ c.top + L.length = n
theorem St.live {c : C} {n : Nat} {L : List Ly} {o t : Int} (h : St c n L o t) : c.live = L := by
  obtain ⟨h1, h2, h3, pre, post, h4, h5, h6⟩ := h
  unfold C.live
  rw [h4, ← h5, List.append_assoc, List.drop_left, show c.n - pre.length = L.length by omega, List.take_left]
end Go.Proofs.YtpldcikmlpegpaaDoor.Plain
end
section
namespace Go.Proofs.YtpldcikmlpegpaaDoor.Plain
open Go.RowKit Go.Proofs.YtpldcikmlpegpaaDoor.PB Go.Proofs.YtpldcikmlpegpaaDoor.Col Go.Proofs.YtpldcikmlpegpaaDoorW.PrintWords Go.Proofs.YtpldcikmlpegpaaDoorW.PrintMore
def StepOk (k m cd : Int) : Prop := (1 ≤ k ∧ k ≤ 6) ∧ (0 ≤ m ∧ m ≤ 65536) ∧ (0 ≤ cd ∧ cd ≤ if k = 1 then 65536 else 0)
instance (k m cd : Int) : Decidable (StepOk k m cd) := inferInstanceAs (Decidable (_ ∧ _))
end Go.Proofs.YtpldcikmlpegpaaDoor.Plain
end
section
namespace Go.Proofs.YtpldcikmlpegpaaDoor.Plain
open Go.RowKit Go.Proofs.YtpldcikmlpegpaaDoor.PB Go.Proofs.YtpldcikmlpegpaaDoor.Col Go.Proofs.YtpldcikmlpegpaaDoorW.PrintWords Go.Proofs.YtpldcikmlpegpaaDoorW.PrintMore
def Ev {α : Type} (f : Nat → Option α) (r : α) : Prop := ∃ k0, ∀ k, k0 ≤ k → f k = some r
theorem Ev.pure {α : Type} {f : Nat → Option α} {r : α} (h : ∀ k, f k = some r) : Ev f r := ⟨0, fun k _ => h k⟩
theorem Ev.from {α : Type} {f : Nat → Option α} {r : α} (k0 : Nat) (h : ∀ k, k0 ≤ k → f k = some r) : Ev f r := ⟨k0, h⟩
theorem Ev.step {α : Type} {f g : Nat → Option α} {r : α} (h : ∀ k, f (k + 1) = g k) (hg : Ev g r) : Ev f r := by
  obtain ⟨k0, hk⟩ := hg
  refine ⟨k0 + 1, fun k hle => ?_⟩
  obtain ⟨k, rfl⟩ : ∃ j, k = j + 1 := ⟨k - 1, by omega⟩
  rw [h k, hk k (by omega)]
theorem Ev.bind {α β : Type} {f : Nat → Option α} {g : Nat → α → Option β} {a : α} {r : β} (hf : Ev f a) (hg : Ev (fun k => g k a) r) : Ev (fun k => (f k).bind (g k)) r := by
  obtain ⟨k0, h0⟩ := hf
  obtain ⟨k1, h1⟩ := hg
  exact ⟨max k0 k1, fun k hk => by simp only [h0 k (by omega), Option.bind_some]; exact h1 k (by omega)⟩
theorem Ev.some {α : Type} {f : Nat → Option α} {r : α} (h : Ev f r) : ∃ k, f k = Option.some r := by
  obtain ⟨k0, h0⟩ := h
  exact ⟨k0, h0 k0 (Nat.le_refl _)⟩
end Go.Proofs.YtpldcikmlpegpaaDoor.Plain
end
section
namespace Go.Proofs.YtpldcikmlpegpaaDoor.Plain
open Go.RowKit Go.Proofs.YtpldcikmlpegpaaDoor.PB
set_option maxRecDepth 100000 in
theorem sane_eq200 : snowlinelaw02_sane.f 200 = some true := by kernel_rfl
end Go.Proofs.YtpldcikmlpegpaaDoor.Plain
end
section
namespace Go.Proofs.YtpldcikmlpegpaaDoor.Plain
open Go.RowKit Go.Proofs.YtpldcikmlpegpaaDoor.PB Go.Proofs.YtpldcikmlpegpaaDoor.Col Go.Proofs.YtpldcikmlpegpaaDoorW.PrintWords Go.Proofs.YtpldcikmlpegpaaDoorW.PrintMore
theorem sane_eq : ∀ (k : Nat), 200 ≤ k → snowlinelaw02_sane.f k = some true := by
  intro k hk
  induction k with
  | zero => omega
  | succ k ih =>
    by_cases h : k + 1 = 200
    · rw [h]; exact sane_eq200
    · exact snowlinelaw02_sane.mono k _ (ih (by omega))
def room (l : Ly) : Int := l.f2 - l.f1 + (l.f0 + l.f2) / 20
def ready : List Ly → Int
  | [] => 0
  | l :: ls => room l + ready ls
theorem room_bound {l : Ly} (h : Fit l) : 0 ≤ room l ∧ room l ≤ 2 * l.f2 + l.f0 := by
  obtain ⟨a, b, c, d⟩ := h
  unfold room
  omega
theorem ready_loop (ls : List Ly) (hr : Rights ls) (hl : ls.length ≤ 64) : ∀ (d k i : Nat) (s : Int), i + d = ls.length → d < k → 0 ≤ s → s ≤ 262144 * (i : Int) →
    pack_Ready.l0 k s ls (ls.length : Int) (i : Int) = some (s + ready (ls.drop i), 0) := by
  intro d
  induction d with
  | zero =>
    intro k i s hi hk _ _
    obtain ⟨k, rfl⟩ : ∃ j, k = j + 1 := ⟨k - 1, by omega⟩
    unfold pack_Ready.l0
    rw [if_neg (by omega), List.drop_eq_nil_of_le (by omega)]
    simp [ready]
  | succ d ih =>
    intro k i s hi hk h0 h1
    obtain ⟨k, rfl⟩ : ∃ j, k = j + 1 := ⟨k - 1, by omega⟩
    have hm : Right (rd_T48 ls (i : Int)) := hr _ (by
      have : rd_T48 ls (i : Int) ∈ ls.drop i := by rw [rd_drop (by omega)]; exact List.mem_cons_self
      exact List.mem_of_mem_drop this)
    have hrb := room_bound hm.live.1
    obtain ⟨a, b, cc, dd, e, f, g⟩ := hm
    unfold pack_Ready.l0
    rw [if_pos (by omega), if_pos (by omega), if_pos (by omega)]
    rw [rd_drop (show i < ls.length by omega)]
    simp only [ready, pack_hold.f, Option.bind_some]
    have h9 : 0 ≤ (rd_T48 ls (i : Int)).f0 + (rd_T48 ls (i : Int)).f2 := by omega
    rw [wr ((rd_T48 ls (i : Int)).f0 + _) (by omega), Int.tdiv_eq_ediv_of_nonneg h9, wr (((rd_T48 ls (i : Int)).f0 + _) / 20) (by omega), wr ((rd_T48 ls (i : Int)).f2 - _) (by omega), wr (s + _) (by omega), wr (s + _ + _) (by omega), wr ((i : Int) + 1) (by omega)]
    have := ih k (i + 1) (s + ((rd_T48 ls (i : Int)).f2 - (rd_T48 ls (i : Int)).f1) + ((rd_T48 ls (i : Int)).f0 + (rd_T48 ls (i : Int)).f2) / 20) (by omega) (by omega) (by unfold room at hrb; omega) (by unfold room at hrb; push_cast; omega)
    push_cast at this
    rw [this]
    unfold room
    congr 2
    omega
theorem ready_eq {k : Nat} (hk : 130 ≤ k) (L : List Ly) : pack_Ready.f k L = some (if Valid L then (ready L, 0) else (0, 20)) := by
  unfold pack_Ready.f
  rw [check_eq hk]
  simp only [Option.bind_some]
  by_cases hv : Valid L
  · rw [checkE_pos hv, if_pos rfl, if_pos hv]
    have := ready_loop L hv.2.1 hv.1 L.length k 0 0 (by omega) (by have := hv.1; omega) (by omega) (by omega)
    simpa using this
  · rw [checkE_neg hv, if_neg (by omega), if_neg hv]
end Go.Proofs.YtpldcikmlpegpaaDoor.Plain
end
section
namespace Go.Proofs.YtpldcikmlpegpaaDoor.Plain
open Go.RowKit Go.Proofs.YtpldcikmlpegpaaDoor.PB Go.Proofs.YtpldcikmlpegpaaDoorW.PrintWords Go.Proofs.YtpldcikmlpegpaaDoorW.PrintMore
def st (x : Ly) : Int := 10 * x.f0 + x.f2 - 40 * x.f1
def ld (l : List Ly) (i : Nat) : Int := water (l.take i)
def at' (l : List Ly) (i : Nat) : Ly := l.getD i z48
theorem st_bound {x : Ly} (h : Right x) : 0 < st x ∧ st x ≤ 1048576 := by
  obtain ⟨a, b, c, d, e, f, g⟩ := h
  unfold st
  omega
theorem strW_eq {x : Ly} (h : Right x) : wrap64 ((wrap64 ((wrap64 (10 * x.f0)) + x.f2)) - (wrap64 (40 * x.f1))) = st x := by
  have hb := st_bound h
  obtain ⟨a, b, c, d, e, f, g⟩ := h
  unfold st at hb ⊢
  rw [wr (10 * x.f0) (by omega), wr (40 * x.f1) (by omega), wr (10 * x.f0 + x.f2) (by omega), wr _ (by omega)]
theorem rights_take {l : List Ly} (h : Rights l) (i : Nat) : Rights (l.take i) := fun x hx => h x (List.mem_of_mem_take hx)
theorem rights_at {l : List Ly} (h : Rights l) {i : Nat} (hi : i < l.length) : Right (at' l i) := by
  refine h _ ?_
  unfold at'
  rw [List.getD_eq_getElem?_getD, List.getElem?_eq_getElem hi]
  exact List.getElem_mem hi
theorem ld_bound {l : List Ly} (h : Valid l) (i : Nat) : 0 ≤ ld l i ∧ ld l i ≤ 65536 := by
  have h1 := water_nonneg (rights_take h.2.1 i).live.fits
  have h2 := water_app (l.take i) (l.drop i)
  rw [List.take_append_drop] at h2
  have h3 : Rights (l.drop i) := fun x hx => h.2.1 x (List.mem_of_mem_drop hx)
  have h4 := water_nonneg h3.live.fits
  have h5 := h.2.2.1
  unfold ld
  omega
theorem ld_succ {l : List Ly} {i : Nat} (hi : i < l.length) : ld l (i + 1) = ld l i + ((at' l i).f0 + (at' l i).f1) := by
  unfold ld at'
  rw [List.take_add_one, water_app, List.getElem?_eq_getElem hi, List.getD_eq_getElem?_getD, List.getElem?_eq_getElem hi]
  simp [water]
theorem mul_bound {a b : Int} (ha : 0 ≤ a ∧ a ≤ 65536) (hb : 0 < b ∧ b ≤ 1048576) : 0 ≤ a * b ∧ a * b ≤ 68719476736 := by
  refine ⟨Int.mul_nonneg ha.1 (by omega), ?_⟩
  have h1 : a * b ≤ 65536 * b := Int.mul_le_mul_of_nonneg_right ha.2 (by omega)
  omega
theorem mul_slope {a s : Int} (ha : 0 ≤ a ∧ a ≤ 65536) (hs : -25 ≤ s ∧ s ≤ 35) : -1638400 ≤ a * s ∧ a * s ≤ 2293760 := by
  have h1 : a * s ≤ a * 35 := Int.mul_le_mul_of_nonneg_left hs.2 ha.1
  have h2 : a * -25 ≤ a * s := Int.mul_le_mul_of_nonneg_left hs.1 ha.1
  omega
def bestAt (l : List Ly) : Nat → Nat → Nat → Nat
  | 0, _, a => a
  | d + 1, i, a => bestAt l d (i + 1) (if ld l a * st (at' l i) < ld l i * st (at' l a) then i else a)
def best (l : List Ly) : Nat := bestAt l (l.length - 1) 1 0
theorem best_lt (l : List Ly) : ∀ (d i a : Nat), i + d = l.length → a < l.length → bestAt l d i a < l.length := by
  intro d
  induction d with
  | zero => intro i a _ h; exact h
  | succ d ih =>
    intro i a hi ha
    simp only [bestAt]
    refine ih (i + 1) _ (by omega) ?_
    split <;> omega
theorem weak_best {l : List Ly} (hv : Valid l) : ∀ (d i a : Nat), i + d = l.length → a < l.length → weakAt l d i (ld l i) ((a : Int), ld l a) = (((bestAt l d i a : Nat) : Int), ld l (bestAt l d i a)) := by
  have h64 := hv.1
  intro d
  induction d with
  | zero => intro i a _ _; rfl
  | succ d ih =>
    intro i a hi ha
    have ri := rights_at hv.2.1 (show i < l.length by omega)
    have ra := rights_at hv.2.1 ha
    have e1 : strW (at' l i) = st (at' l i) := strW_eq ri
    have e2 : strW (at' l a) = st (at' l a) := strW_eq ra
    have b1 := mul_bound (ld_bound hv a) (st_bound ri)
    have b2 := mul_bound (ld_bound hv i) (st_bound ra)
    have b3 := ld_bound hv (i + 1)
    have b4 := ld_succ (show i < l.length by omega)
    have b5 := ld_bound hv i
    simp only [weakAt, bestAt]
    have e3 : wrap64 (ld l i + wrap64 ((l.getD i z48).f0 + (l.getD i z48).f1)) = ld l (i + 1) := by
      show wrap64 (ld l i + wrap64 ((at' l i).f0 + (at' l i).f1)) = _
      rw [wr ((at' l i).f0 + _) (by omega), wr _ (by omega), b4]
    rw [e3]
    have e4 : weak1 l (i : Int) (ld l i) (l.getD i z48) ((a : Int), ld l a) = (((if ld l a * st (at' l i) < ld l i * st (at' l a) then i else a : Nat) : Int), ld l (if ld l a * st (at' l i) < ld l i * st (at' l a) then i else a)) := by
      unfold weak1
      have e5 : l.getD ((a : Int), ld l a).1.toNat z48 = at' l a := by
        show l.getD (a : Int).toNat z48 = _
        rw [Int.toNat_natCast]
        rfl
      rw [e5]
      show (if wrap64 (ld l a * strW (at' l i)) < wrap64 (ld l i * strW (at' l a)) then _ else _) = _
      rw [e1, e2, wr _ (by omega), wr _ (by omega)]
      split <;> rfl
    rw [e4]
    exact ih (i + 1) _ (by omega) (by split <;> omega)
def weakestP (l : List Ly) : Int × Int × Int := if Valid l then (if l.length = 0 then (0, 0, 4) else ((best l : Int), ld l (best l), 0)) else (0, 0, 20)
theorem weakest_eq (l : List Ly) : pack_Weakest.f l = some (weakestP l) := by
  unfold pack_Weakest.f weakestP
  rw [check_eq (by omega)]
  simp only [Option.bind_some]
  by_cases hv : Valid l
  · rw [checkE_pos hv, if_pos rfl, if_pos hv]
    by_cases h0 : l.length = 0
    · rw [if_pos h0, if_pos h0]
    · rw [if_neg h0, if_neg h0]
      have h1 := weak_best hv l.length 0 0 (by omega) (by omega)
      have e : bestAt l l.length 0 0 = best l := by
        obtain ⟨n, hn⟩ : ∃ n, l.length = n + 1 := ⟨l.length - 1, by omega⟩
        unfold best
        rw [hn]
        simp only [bestAt, Nat.add_sub_cancel]
        rw [if_neg (by omega)]
      rw [e] at h1
      have h2 : weakAt l l.length 0 0 (0, 0) = (((best l : Nat) : Int), ld l (best l)) := h1
      rw [h2]
  · rw [checkE_neg hv, if_neg (by omega), if_neg hv]
def brkP (s : Int) (l : List Ly) : Nat → Nat → Bool
  | 0, _ => false
  | d + 1, i => if 3 * st (at' l i) < ld l i * (s - 25) then true else brkP s l d (i + 1)
theorem brk_eq {l : List Ly} (hv : Valid l) {s : Int} (hs : 0 ≤ s ∧ s ≤ 60) : ∀ (d i : Nat), i + d = l.length → brkAt s l d i (ld l i) false = brkP s l d i := by
  have h64 := hv.1
  intro d
  induction d with
  | zero => intro i _; rfl
  | succ d ih =>
    intro i hi
    have ri := rights_at hv.2.1 (show i < l.length by omega)
    have e1 : strW (at' l i) = st (at' l i) := strW_eq ri
    have b0 := st_bound ri
    have b1 := mul_slope (ld_bound hv i) (show -25 ≤ s - 25 ∧ s - 25 ≤ 35 by omega)
    have b3 := ld_bound hv (i + 1)
    have b4 := ld_succ (show i < l.length by omega)
    have b5 := ld_bound hv i
    simp only [brkAt, brkP]
    have e3 : wrap64 (ld l i + wrap64 ((l.getD i z48).f0 + (l.getD i z48).f1)) = ld l (i + 1) := by
      show wrap64 (ld l i + wrap64 ((at' l i).f0 + (at' l i).f1)) = _
      rw [wr ((at' l i).f0 + _) (by omega), wr _ (by omega), b4]
    rw [e3, ih (i + 1) (by omega)]
    have e4 : brk1 s (ld l i) (l.getD i z48) = decide (3 * st (at' l i) < ld l i * (s - 25)) := by
      unfold brk1
      show decide (wrap64 (3 * strW (at' l i)) < wrap64 (ld l i * wrap64 (s - 25))) = _
      rw [e1, wr (s - 25) (by omega), wr (3 * _) (by omega), wr (ld l i * _) (by omega)]
    rw [e4]
    simp only [decide_eq_true_eq]
def broken (l : List Ly) (s : Int) : Bool := brkP s l l.length 0
theorem broken_eq {l : List Ly} (hv : Valid l) {s : Int} (hs : 0 ≤ s ∧ s ≤ 60) : pack_breaks.f l s = some (broken l s) := by
  unfold pack_breaks.f broken
  have := brk_eq hv hs l.length 0 (by omega)
  rw [← this]
  rfl
def breaksP (l : List Ly) (s : Int) : Bool × Int := if Valid l then (if 0 ≤ s ∧ s ≤ 60 then (broken l s, 0) else (false, 1)) else (false, 20)
theorem breaks_eq {k : Nat} (hk : 130 ≤ k) (l : List Ly) (s : Int) : pack_Breaks.f k l s = some (breaksP l s) := by
  unfold pack_Breaks.f breaksP
  rw [check_eq hk, from_eq]
  simp only [Option.bind_some, decide_eq_true_eq]
  by_cases hv : Valid l
  · rw [checkE_pos hv, if_pos rfl, if_pos hv]
    by_cases hs : 0 ≤ s ∧ s ≤ 60
    · rw [if_pos hs, if_pos hs, broken_eq hv hs]
      rfl
    · rw [if_neg hs, if_neg hs]
  · rw [checkE_neg hv, if_neg (by omega), if_neg hv]
def steepAt (l : List Ly) : Nat → Int
  | 0 => 0
  | n + 1 => if broken l ((n : Int) + 1) = true then steepAt l n else (n : Int) + 1
def steepP (l : List Ly) : Int × Int := if Valid l then (steepAt l 60, 0) else (0, 20)
theorem steep_loop {l : List Ly} (hv : Valid l) : ∀ (n k : Nat), n ≤ 60 → n < k → pack_Steepest.l0 k (n : Int) l = some (steepAt l n, 0) := by
  intro n
  induction n with
  | zero =>
    intro k _ hk
    obtain ⟨k, rfl⟩ : ∃ j, k = j + 1 := ⟨k - 1, by omega⟩
    rfl
  | succ n ih =>
    intro k hn hk
    obtain ⟨k, rfl⟩ : ∃ j, k = j + 1 := ⟨k - 1, by omega⟩
    simp only [pack_Steepest.l0, steepAt]
    rw [if_pos (by push_cast; omega), broken_eq hv (by push_cast; omega)]
    simp only [Option.bind_some]
    push_cast
    by_cases hb : broken l ((n : Int) + 1) = true
    · rw [if_pos hb, if_pos hb, wr _ (by omega), show (n : Int) + 1 - 1 = n by omega, ih k (by omega) (by omega)]
    · rw [if_neg hb, if_neg hb]
theorem steep_eq {k : Nat} (hk : 130 ≤ k) (l : List Ly) : pack_Steepest.f k l = some (steepP l) := by
  unfold pack_Steepest.f steepP
  rw [check_eq hk]
  simp only [Option.bind_some]
  by_cases hv : Valid l
  · rw [checkE_pos hv, if_pos rfl, if_pos hv]
    exact steep_loop hv 60 k (by omega) (by omega)
  · rw [checkE_neg hv, if_neg (by omega), if_neg hv]
end Go.Proofs.YtpldcikmlpegpaaDoor.Plain
end
section
namespace Go.Proofs.YtpldcikmlpegpaaDoor.Plain
open Go.RowKit Go.Proofs.YtpldcikmlpegpaaDoor.PB Go.Proofs.YtpldcikmlpegpaaDoorW.PrintWords Go.Proofs.YtpldcikmlpegpaaDoorW.PrintMore
theorem rstr_eq {x : Ly} (h : Right x) : snowlineref02_Strength.f x.f0 x.f1 x.f2 = some (st x) := by
  unfold snowlineref02_Strength.f
  rw [strW_eq h]
theorem rd_at (l : List Ly) (i : Nat) : rd_T48 l (i : Int) = at' l i := by
  show l.getD (i : Int).toNat z48 = _
  rw [Int.toNat_natCast]
  rfl
theorem brk_iff (s : Int) (l : List Ly) : ∀ (d i : Nat), brkP s l d i = true ↔ ∃ j, i ≤ j ∧ j < i + d ∧ 3 * st (at' l j) < ld l j * (s - 25) := by
  intro d
  induction d with
  | zero => intro i; simp [brkP]; omega
  | succ d ih =>
    intro i
    simp only [brkP]
    split
    · rename_i h
      exact ⟨fun _ => ⟨i, by omega, by omega, h⟩, fun _ => rfl⟩
    · rename_i h
      rw [ih]
      constructor
      · rintro ⟨j, h1, h2, h3⟩; exact ⟨j, by omega, by omega, h3⟩
      · rintro ⟨j, h1, h2, h3⟩
        by_cases hj : j = i
        · rw [hj] at h3; exact absurd h3 h
        · exact ⟨j, by omega, by omega, h3⟩
theorem broken_iff (l : List Ly) (s : Int) : broken l s = true ↔ ∃ j, j < l.length ∧ 3 * st (at' l j) < ld l j * (s - 25) := by
  unfold broken
  rw [brk_iff]
  constructor
  · rintro ⟨j, _, h2, h3⟩; exact ⟨j, by omega, h3⟩
  · rintro ⟨j, h2, h3⟩; exact ⟨j, by omega, by omega, h3⟩
theorem broken_mono {l : List Ly} (hv : Valid l) {s t : Int} (hst : s ≤ t) (h : broken l s = true) : broken l t = true := by
  rw [broken_iff] at h ⊢
  obtain ⟨j, h1, h2⟩ := h
  refine ⟨j, h1, ?_⟩
  have b := ld_bound hv j
  have : ld l j * (s - 25) ≤ ld l j * (t - 25) := Int.mul_le_mul_of_nonneg_left (by omega) b.1
  omega
theorem broken_flat {l : List Ly} (hv : Valid l) {s : Int} (hs : s ≤ 25) : broken l s = false := by
  rw [Bool.eq_false_iff, ne_eq, broken_iff]
  rintro ⟨j, h1, h2⟩
  have b := ld_bound hv j
  have c := st_bound (rights_at hv.2.1 h1)
  have : ld l j * (s - 25) ≤ ld l j * 0 := Int.mul_le_mul_of_nonneg_left (by omega) b.1
  omega
theorem steep_spec {l : List Ly} (hv : Valid l) : ∀ (n : Nat), 0 ≤ steepAt l n ∧ steepAt l n ≤ n ∧ broken l (steepAt l n) = false ∧ ∀ (t : Int), steepAt l n < t → t ≤ n → broken l t = true := by
  intro n
  induction n with
  | zero => exact ⟨Int.le_refl _, Int.le_refl _, broken_flat hv (by simp [steepAt]), fun t h1 h2 => by simp [steepAt] at h1; omega⟩
  | succ n ih =>
    obtain ⟨a, b, c, d⟩ := ih
    simp only [steepAt]
    by_cases hb : broken l ((n : Int) + 1) = true
    · rw [if_pos hb]
      refine ⟨a, by push_cast; omega, c, fun t h1 h2 => ?_⟩
      by_cases ht : t = (n : Int) + 1
      · rw [ht]; exact hb
      · exact d t h1 (by push_cast at h2; omega)
    · rw [if_neg hb]
      exact ⟨by omega, by push_cast; omega, by simpa using hb, fun t h1 h2 => by push_cast at h2; omega⟩
theorem best_spec {l : List Ly} (hv : Valid l) : ∀ (d i a : Nat), i + d = l.length → a < l.length → (∀ j, j < i → ld l j * st (at' l a) ≤ ld l a * st (at' l j)) →
    ∀ j, j < l.length → ld l j * st (at' l (bestAt l d i a)) ≤ ld l (bestAt l d i a) * st (at' l j) := by
  intro d
  induction d with
  | zero => intro i a hi ha h j hj; exact h j (by omega)
  | succ d ih =>
    intro i a hi ha h
    have pi := (st_bound (rights_at hv.2.1 (show i < l.length by omega))).1
    have pa := (st_bound (rights_at hv.2.1 ha)).1
    simp only [bestAt]
    by_cases hc : ld l a * st (at' l i) < ld l i * st (at' l a)
    · rw [if_pos hc]
      refine ih (i + 1) i (by omega) (by omega) (fun j hj => ?_)
      by_cases hji : j = i
      · rw [hji]; exact Int.le_refl _
      · have pj := (st_bound (rights_at hv.2.1 (show j < l.length by omega))).1
        have h1 := h j (by omega)
        have h2 : ld l j * st (at' l a) * st (at' l i) ≤ ld l a * st (at' l j) * st (at' l i) := Int.mul_le_mul_of_nonneg_right h1 (by omega)
        have h3 : ld l a * st (at' l i) * st (at' l j) ≤ ld l i * st (at' l a) * st (at' l j) := Int.mul_le_mul_of_nonneg_right (by omega) (by omega)
        have e1 : ld l a * st (at' l j) * st (at' l i) = ld l a * st (at' l i) * st (at' l j) := by rw [Int.mul_assoc, Int.mul_comm (st (at' l j)), ← Int.mul_assoc]
        have h4 : ld l j * st (at' l i) * st (at' l a) ≤ ld l i * st (at' l j) * st (at' l a) := by
          have e2 : ld l j * st (at' l i) * st (at' l a) = ld l j * st (at' l a) * st (at' l i) := by rw [Int.mul_assoc, Int.mul_comm (st (at' l i)), ← Int.mul_assoc]
          have e3 : ld l i * st (at' l j) * st (at' l a) = ld l i * st (at' l a) * st (at' l j) := by rw [Int.mul_assoc, Int.mul_comm (st (at' l j)), ← Int.mul_assoc]
          rw [e2, e3]
          omega
        exact Int.le_of_mul_le_mul_right h4 pa
    · rw [if_neg hc]
      refine ih (i + 1) a (by omega) ha (fun j hj => ?_)
      by_cases hji : j = i
      · rw [hji]; omega
      · exact h j (by omega)
theorem broken_best {l : List Ly} (hv : Valid l) (h0 : 0 < l.length) (s : Int) : broken l s = true ↔ 3 * st (at' l (best l)) < ld l (best l) * (s - 25) := by
  have hlt : best l < l.length := best_lt l (l.length - 1) 1 0 (by omega) h0
  have hb : ∀ j, j < l.length → ld l j * st (at' l (best l)) ≤ ld l (best l) * st (at' l j) := best_spec hv (l.length - 1) 1 0 (by omega) h0 (fun j hj => by rw [show j = 0 by omega]; exact Int.le_refl _)
  rw [broken_iff]
  constructor
  · rintro ⟨j, h1, h2⟩
    have pj := (st_bound (rights_at hv.2.1 h1)).1
    have pb := (st_bound (rights_at hv.2.1 hlt)).1
    have lj := ld_bound hv j
    have hs : 0 < s - 25 := by
      rcases Int.lt_or_le 0 (s - 25) with h | h
      · exact h
      · have : ld l j * (s - 25) ≤ ld l j * 0 := Int.mul_le_mul_of_nonneg_left h lj.1
        omega
    have h3 := hb j h1
    have h4 : ld l j * st (at' l (best l)) * (s - 25) ≤ ld l (best l) * st (at' l j) * (s - 25) := Int.mul_le_mul_of_nonneg_right h3 (by omega)
    have h5 : 3 * st (at' l j) * st (at' l (best l)) < ld l j * (s - 25) * st (at' l (best l)) := Int.mul_lt_mul_of_pos_right h2 pb
    have e1 : ld l j * st (at' l (best l)) * (s - 25) = ld l j * (s - 25) * st (at' l (best l)) := by rw [Int.mul_assoc, Int.mul_comm (st _), ← Int.mul_assoc]
    have e2 : ld l (best l) * st (at' l j) * (s - 25) = ld l (best l) * (s - 25) * st (at' l j) := by rw [Int.mul_assoc, Int.mul_comm (st _), ← Int.mul_assoc]
    have e3 : 3 * st (at' l j) * st (at' l (best l)) = 3 * st (at' l (best l)) * st (at' l j) := by rw [Int.mul_assoc, Int.mul_comm (st _), ← Int.mul_assoc]
    have h6 : 3 * st (at' l (best l)) * st (at' l j) < ld l (best l) * (s - 25) * st (at' l j) := by omega
    exact Int.lt_of_mul_lt_mul_right h6 (by omega)
  · intro h
    exact ⟨best l, hlt, h⟩
end Go.Proofs.YtpldcikmlpegpaaDoor.Plain
end
section
namespace Go.Proofs.YtpldcikmlpegpaaDoor.PurePackSlopes
open Go.RowKit Go.Proofs.YtpldcikmlpegpaaDoor.PB Go.Proofs.YtpldcikmlpegpaaDoor.Open Go.Proofs.YtpldcikmlpegpaaDoor.Plain
theorem last (l : List Ly) (s : Int) (hv : Valid l) (hs : 0 ≤ s ∧ s ≤ 60) (k : Nat) (hk : 200 ≤ k) : snowlinelaw02_PackSlopes.j1 k s (broken l s) false l = some true := by
  obtain ⟨k, rfl⟩ : ∃ j, k = j + 1 := ⟨k - 1, by omega⟩
  simp only [snowlinelaw02_PackSlopes.j1]
  rw [if_neg (by simp), weakest_eq]
  simp only [Option.bind_some]
  unfold weakestP
  rw [if_pos hv]
  by_cases h0 : l.length = 0
  · rw [if_pos h0]
    have : broken l s = false := by
      rw [Bool.eq_false_iff, ne_eq, broken_iff]
      rintro ⟨j, h1, _⟩
      omega
    rw [this]
    simp [h0]
  · rw [if_neg h0]
    have hlt : best l < l.length := best_lt l (l.length - 1) 1 0 (by omega) (by omega)
    have rb := rights_at hv.2.1 hlt
    have b0 := st_bound rb
    have b1 := mul_slope (ld_bound hv (best l)) (show -25 ≤ s - 25 ∧ s - 25 ≤ 35 by omega)
    dsimp only
    rw [if_pos rfl, if_neg (by omega), if_neg (by omega), if_pos (by omega), if_pos (by omega)]
    rw [rd_at, rstr_eq rb]
    simp only [Option.bind_some]
    rw [wr (s - 25) (by omega), wr (ld l (best l) * _) (by omega), wr (3 * _) (by omega)]
    have hb := broken_best hv (by omega) s
    congr 1
    by_cases h : 3 * st (at' l (best l)) < ld l (best l) * (s - 25)
    · rw [decide_eq_true (show ld l (best l) * (s - 25) > 3 * st (at' l (best l)) from h), hb.2 h]
      rfl
    · rw [decide_eq_false (show ¬ ld l (best l) * (s - 25) > 3 * st (at' l (best l)) from h)]
      have : broken l s = false := by
        rw [Bool.eq_false_iff, ne_eq, hb]
        exact h
      rw [this]
      rfl
theorem next (l : List Ly) (s : Int) (hv : Valid l) (hs : 0 ≤ s ∧ s ≤ 60) (k : Nat) (hk : 250 ≤ k) : snowlinelaw02_PackSlopes.j0 k s (broken l s) false l = some true := by
  obtain ⟨k, rfl⟩ : ∃ j, k = j + 1 := ⟨k - 1, by omega⟩
  simp only [snowlinelaw02_PackSlopes.j0]
  rw [if_neg (by simp), steep_eq (by omega)]
  simp only [Option.bind_some]
  unfold steepP
  rw [if_pos hv]
  obtain ⟨a, b, c, d⟩ := steep_spec hv 60
  dsimp only
  have h25 : ¬ steepAt l 60 < 25 := by
    intro h
    have := d 25 h (by omega)
    rw [broken_flat hv (Int.le_refl 25)] at this
    exact absurd this (by simp)
  rw [if_pos rfl, if_neg h25, if_neg (by omega)]
  have : (broken l s != decide (s > steepAt l 60)) = false := by
    by_cases h : s > steepAt l 60
    · rw [d s h (by omega), decide_eq_true h]
      rfl
    · have hb : broken l s = false := by
        rw [Bool.eq_false_iff]
        intro hb
        have := broken_mono hv (show s ≤ steepAt l 60 by omega) hb
        rw [c] at this
        exact absurd this (by simp)
      rw [hb, decide_eq_false h]
      rfl
  rw [this]
  exact last l s hv hs k (by omega)
theorem pure (l : List Ly) (s t : Int) (_ : ∀ x ∈ l, LyI x) (_ : i64 s) (_ : i64 t) : ∃ n, snowlinelaw02_PackSlopes.f n l s t = some true := by
  refine ⟨300, ?_⟩
  unfold snowlinelaw02_PackSlopes.f
  rw [sane_eq 300 (by omega), breaks_eq (by omega), breaks_eq (by omega)]
  simp only [Option.bind_some, if_true]
  unfold breaksP
  by_cases hv : Valid l
  · rw [if_pos hv, if_pos hv]
    by_cases hs : 0 ≤ s ∧ s ≤ 60
    · rw [if_pos hs]
      have hn := next l s hv hs 300 (by omega)
      dsimp only
      rw [if_pos rfl]
      by_cases ht : 0 ≤ t ∧ t ≤ 60
      · rw [if_pos ht]
        dsimp only
        rw [if_pos rfl]
        have up : s ≥ t → broken l t = true → broken l s = true := fun h hb => broken_mono hv h hb
        have dn : s ≤ t → broken l s = true → broken l t = true := fun h hb => broken_mono hv h hb
        by_cases h1 : s ≥ t
        · rw [if_pos h1]
          by_cases hb : broken l t = true
          · rw [if_pos hb, up h1 hb, if_pos rfl, hb]
            rw [up h1 hb] at hn
            split <;> exact hn
          · rw [if_neg hb]
            by_cases h2 : s ≤ t
            · rw [if_pos h2]
              have : ¬ broken l s = true := fun h => hb (dn h2 h)
              rw [if_neg this]
              exact hn
            · rw [if_neg h2]
              exact hn
        · rw [if_neg h1, if_pos (show s ≤ t by omega)]
          by_cases hb : broken l s = true
          · rw [if_pos hb, dn (by omega) hb]
            exact hn
          · rw [if_neg hb]
            exact hn
      · rw [if_neg ht]
        exact hn
    · rw [if_neg hs]
      rfl
  · rw [if_neg hv]
    rfl
end Go.Proofs.YtpldcikmlpegpaaDoor.PurePackSlopes
end
section
namespace Go.Proofs.YtpldcikmlpegpaaDoor.packSlopes
open Go.ChangeShapes Go.WideShapes Go.ChangeAt Go.RowKit Go.Proofs.YtpldcikmlpegpaaDoor.Open Go.Proofs.YtpldcikmlpegpaaDoor.PB
set_option linter.unusedVariables false
set_option maxRecDepth 100000 in
theorem lifted (os : Os) (started : os.Started) (H : Type) (enc : TypeId × Value → H) :
    ReturnsInHanded {} Tryd.checked os 10 .any (fun w args => (Rows.packSlopesSpec.pre enc Tryd.prog Tryd.f10 [] false w args ∧ laidMetH Tryd.prog laid3 w) ∧ sizedMet enc Tryd.prog Tryd.f10 (OpenSpec.ofChange Rows.packSlopesSpec) false w args)
      (Rows.packSlopesSpec.post enc Tryd.prog Tryd.f10 false true false false) := by
  refine returnsInHanded_of_change_and (C := Tryd.checked) (X := fun w _ => laidMetH Tryd.prog laid3 w) (fun _ _ _ hh h => h.of_heap hh) own started (by kernel_rfl) Tryd.func10
    (ChangeSpec.witness_shaped (enc := enc) (C := Tryd.checked) (os := os) (X := fun w _ => laidMetH Tryd.prog laid3 w) false (World.doorLaid Tryd.prog 400 os) #[.agg #[.slice none 0 0], .int .i64 0, .int .i64 0] 8 rfl (World.shaped_of_RefB (by kernel_rfl) (by kernel_rfl)) (by kernel_rfl) (by kernel_rfl) (by kernel_rfl) (door_met os _)) ?_
  intro W base args ds gs before hval0 hW _ _ hL _
  have hval : ∀ (j : Nat) t v, Tryd.f10.params[j]? = some t → args[j]? = some v → Value.okWide Tryd.prog W .any base t v := hval0
  have hW' := hW
  obtain ⟨p, q, hA0, hV, rfl, hfz, hnd⟩ := hW
  have hA : DataW.TrodAll enc Tryd.prog W 0 (fun _ => true) true Tryd.f10.params.toList args.toList ds p := hA0
  rw [Tryd.params10] at hA hval
  obtain ⟨v0, vs0, d0, ds0, p0, q0, hargs, rfl, rfl, h0, r0⟩ := trodAll_cons hA
  obtain ⟨v1, vs1, d1, ds1, p1, q1, rfl, rfl, rfl, h1, r1⟩ := trodAll_cons r0
  obtain ⟨v2, vs2, d2, ds2, p2, q2, rfl, rfl, rfl, h2, r2⟩ := trodAll_cons r1
  obtain ⟨rfl, rfl, rfl⟩ := trodAll_nil r2
  obtain rfl : args = #[v0, v1, v2] := by cases args; simp_all
  obtain ⟨rfl, rfl⟩ := trodVars_none hV
  have k0 := h0
  have lt0 : ∀ x ∈ p0, x.block < W.heap.size := by obtain ⟨m, hm⟩ := k0; exact DataW.trod_lt m _ _ _ hm
  obtain ⟨A0, c0, l0, rfl, hl0, hC0, hi0⟩ := open_pack (hval 0 24 v0 rfl rfl) h0
  have k1 := h1
  have lt1 : ∀ x ∈ p1, x.block < W.heap.size := by obtain ⟨m, hm⟩ := k1; exact DataW.trod_lt m _ _ _ hm
  obtain ⟨a1, rfl, _, _, w1⟩ := open_int Tryd.underlying3 (hval 1 3 v1 rfl rfl) h1
  have k2 := h2
  have lt2 : ∀ x ∈ p2, x.block < W.heap.size := by obtain ⟨m, hm⟩ := k2; exact DataW.trod_lt m _ _ _ hm
  obtain ⟨a2, rfl, _, _, w2⟩ := open_int Tryd.underlying3 (hval 2 3 v2 rfl rfl) h2
  clear hA0 hval0
  obtain ⟨k, h⟩ := PurePackSlopes.pure l0 a1 a2 hi0 w1 w2
  refine (snowlinelaw02_PackSlopes.calls k A0 c0 l0 a1 a2 true W hC0 hl0 (glob_of hL) h).mono ?_
  rintro e W' ⟨rfl, bel⟩
  exact ⟨_, rfl, _, _, _, [], _, [], hW', trodAll_mk1 (shut_bool Tryd.underlying4 _), (trodAll_cons_mk (Below.trod laidOut (by kernel_rfl) (of_decide_eq_true (by kernel_rfl)) k0 bel lt0) (trodAll_cons_mk (Below.trod laidOut (by kernel_rfl) (of_decide_eq_true (by kernel_rfl)) k1 bel lt1) (trodAll_cons_mk (Below.trod laidOut (by kernel_rfl) (of_decide_eq_true (by kernel_rfl)) k2 bel lt2) trodAll_mk0))), rfl, bel.frame _, fun h => by cases h⟩
theorem over : Rows.PackSlopesSaid :=
  OpenClaim.holds_of_wide 10 Tryd.f10 rfl rfl rfl rfl rfl rfl rfl ⟨rfl, rfl, rfl, rfl, rfl⟩ rfl rfl rfl rfl rfl (by kernel_rfl) Tryd.func10 (by kernel_rfl)
    (of_decide_eq_true (by kernel_rfl)) (by unfold Func.isWrapper; first | (rw [if_pos (by decide +kernel)]; kernel_rfl) | (rw [if_neg (by decide +kernel)]; exact ⟨rfl, rfl⟩))
    (fun os started H enc _ => lifted os started H enc)
theorem card_holds : Rows.PackSlopesCardSaid :=
  Claim7.holds_tied_plain_at .later [] [.data, .data, .data] true (true, "e4590a7662fcc404b2e76501190c3f3756a1f45f85c3a8ba53dbb8ae7a261990") false
    over (fun _ h => by cases h) (by kernel_rfl) (fun _ h => by cases h) packSlopes_row_tie rfl ⟨rfl, rfl⟩ (by kernel_rfl) rfl
    (fun f fn hf hfn => by
      obtain rfl : f = 10 := Option.some.inj ((show Tryd.prog.funcNamed "snowline/snowlinelaw02.PackSlopes" = some 10 by kernel_rfl).symm.trans hf) |>.symm
      obtain rfl : fn = Tryd.f10 := (Option.some.inj (Tryd.func10.symm.trans hfn)).symm
      exact ⟨by kernel_rfl, fun j t ht => by
        rw [Tryd.params10] at ht
        have hm : t ∈ [24, 3, 3] := by simpa using Array.mem_of_getElem? ht
        have hall : ([24, 3, 3].all fun u => !Tryd.prog.wantsStandIn u) = true := by kernel_rfl
        exact (show Tryd.prog.wantsStandIn t = false by simpa using List.all_eq_true.1 hall t hm)⟩)
    (by kernel_rfl)
end Go.Proofs.YtpldcikmlpegpaaDoor.packSlopes
end
