/-
The tied card of the law PackReady of snowlinelaw02 holds: it answers true for every pack and every rain, and changes nothing.
-/
import Derived.KernelRfl
import Derived.Test.YtpldcikmlpegpaaDoorTie
import Derived.Test.YtpldcikmlpegpaaDoorCards
import Derived.SevenTiedAt
import Derived.Test.YtpldcikmlpegpaaDoorPackReadyA1
import Derived.Test.YtpldcikmlpegpaaDoorPackReadyA2
import Derived.Test.YtpldcikmlpegpaaDoorPackReadyA3
import Derived.Test.YtpldcikmlpegpaaDoorPackReadyA4
import Derived.Test.YtpldcikmlpegpaaDoorPackReadyA5
section
namespace Go.Proofs.YtpldcikmlpegpaaDoor.Plain
open Go.RowKit Go.Proofs.YtpldcikmlpegpaaDoor.PB
theorem wr (x : Int) (h : -9223372036854775808 ≤ x ∧ x ≤ 9223372036854775807) : wrap64 x = x := by
  unfold wrap64
  omega
def Right (l : Ly) : Prop := 1 ≤ l.f0 ∧ l.f0 ≤ 65536 ∧ 0 ≤ l.f2 ∧ l.f2 ≤ 65536 ∧ 0 ≤ l.f1 ∧ l.f1 ≤ l.f0 / 20 ∧ (l.f1 = 0 ∨ l.f2 = 0)
instance (l : Ly) : Decidable (Right l) := inferInstanceAs (Decidable (_ ∧ _))
def Rights (ls : List Ly) : Prop := ∀ l ∈ ls, Right l
instance (ls : List Ly) : Decidable (Rights ls) := inferInstanceAs (Decidable (∀ l ∈ ls, Right l))
def Valid (ls : List Ly) : Prop := ls.length ≤ 64 ∧ Rights ls ∧ water ls ≤ 65536 ∧ cold ls ≤ 65536
instance (ls : List Ly) : Decidable (Valid ls) := inferInstanceAs (Decidable (_ ∧ _))
def checkE (ls : List Ly) : Int := if Valid ls then 0 else 20
theorem Right.live {l : Ly} (h : Right l) : Fit l ∧ 1 ≤ l.f0 := by
  obtain ⟨a, b, c, d, e, f, g⟩ := h
  unfold Fit
  omega
theorem Rights.live {ls : List Ly} (h : Rights ls) : Live ls := fun l hl => (h l hl).live
theorem Rights.head {l : Ly} {ls : List Ly} (h : Rights (l :: ls)) : Right l := h l List.mem_cons_self
theorem Rights.tail {l : Ly} {ls : List Ly} (h : Rights (l :: ls)) : Rights ls := fun x hx => h x (List.mem_cons_of_mem _ hx)
theorem Valid.live {ls : List Ly} (h : Valid ls) : Live ls := h.2.1.live
theorem from_eq (a b c : Int) : pack_from.f a b c = some (decide (b ≤ a ∧ a ≤ c)) := by
  unfold pack_from.f
  by_cases h : a ≥ b
  · rw [if_pos h]; congr 1; simp; omega
  · rw [if_neg h]; congr 1; symm; simp; omega
theorem some_true {p : Prop} [Decidable p] (h : p) : (some true : Option Bool) = some (decide p) := by rw [decide_eq_true h]
theorem some_false {p : Prop} [Decidable p] (h : ¬ p) : (some false : Option Bool) = some (decide p) := by rw [decide_eq_false h]
theorem right_eq (a b c : Int) : pack_right.f a b c = some (decide (Right ⟨a, b, c⟩)) := by
  unfold pack_right.f
  simp only [from_eq, Option.bind_some, pack_hold.f, decide_eq_true_eq]
  by_cases h1 : 1 ≤ a ∧ a ≤ 65536
  · have ht : wrap64 (Int.tdiv a 20) = a / 20 := by rw [Int.tdiv_eq_ediv_of_nonneg (by omega), wr _ (by omega)]
    rw [if_pos h1]
    by_cases h2 : 0 ≤ c ∧ c ≤ 65536
    · rw [if_pos h2, ht]
      by_cases h3 : 0 ≤ b ∧ b ≤ a / 20
      · rw [if_pos h3]
        by_cases h4 : b = 0
        · rw [if_pos h4]; exact some_true ⟨h1.1, h1.2, h2.1, h2.2, h3.1, h3.2, .inl h4⟩
        · rw [if_neg h4]
          by_cases h5 : c = 0
          · rw [show (c == 0) = true by simp [h5]]; exact some_true ⟨h1.1, h1.2, h2.1, h2.2, h3.1, h3.2, .inr h5⟩
          · rw [show (c == 0) = false by simp [h5]]; exact some_false (fun h => h.2.2.2.2.2.2.elim h4 h5)
      · rw [if_neg h3]; exact some_false (fun h => h3 ⟨h.2.2.2.2.1, h.2.2.2.2.2.1⟩)
    · rw [if_neg h2]; exact some_false (fun h => h2 ⟨h.2.2.1, h.2.2.2.1⟩)
  · rw [if_neg h1]; exact some_false (fun h => h1 ⟨h.1, h.2.1⟩)
theorem rd_drop {ls : List Ly} {i : Nat} (h : i < ls.length) : ls.drop i = rd_T48 ls (i : Int) :: ls.drop (i + 1) := by
  rw [List.drop_eq_getElem_cons h]
  congr 1
  simp [rd_T48, List.getD_eq_getElem?_getD, h]
theorem sums_loop (ls : List Ly) (hr : Rights ls) (hl : ls.length ≤ 128) : ∀ (d k i : Nat) (w c : Int), i + d = ls.length → d < k → 0 ≤ w → w ≤ 131072 * (i : Int) → 0 ≤ c → c ≤ 65536 * (i : Int) →
    pack_sums.l0 k w c ls (ls.length : Int) (i : Int) = some (w + water (ls.drop i), c + cold (ls.drop i)) := by
  intro d
  induction d with
  | zero =>
    intro k i w c hi hk _ _ _ _
    obtain ⟨k, rfl⟩ : ∃ j, k = j + 1 := ⟨k - 1, by omega⟩
    unfold pack_sums.l0
    rw [if_neg (by omega), List.drop_eq_nil_of_le (by omega)]
    simp [water, cold]
  | succ d ih =>
    intro k i w c hi hk h0 h1 h2 h3
    obtain ⟨k, rfl⟩ : ∃ j, k = j + 1 := ⟨k - 1, by omega⟩
    have hm : Right (rd_T48 ls (i : Int)) := hr _ (by
      have : rd_T48 ls (i : Int) ∈ ls.drop i := by rw [rd_drop (by omega)]; exact List.mem_cons_self
      exact List.mem_of_mem_drop this)
    obtain ⟨a, b, cc, dd, e, f, g⟩ := hm
    unfold pack_sums.l0
    rw [if_pos (by omega), if_pos (by omega), if_pos (by omega)]
    rw [rd_drop (show i < ls.length by omega)]
    simp only [water, cold]
    rw [wr ((rd_T48 ls (i : Int)).f0 + _) (by omega), wr (w + _) (by omega), wr (c + _) (by omega), wr ((i : Int) + 1) (by omega)]
    have := ih k (i + 1) (w + ((rd_T48 ls (i : Int)).f0 + (rd_T48 ls (i : Int)).f1)) (c + (rd_T48 ls (i : Int)).f2) (by omega) (by omega) (by omega) (by push_cast; omega) (by omega) (by push_cast; omega)
    push_cast at this
    rw [this]
    congr 2 <;> omega
theorem sums_eq {k : Nat} {ls : List Ly} (hr : Rights ls) (hl : ls.length ≤ 128) (hk : ls.length < k) : pack_sums.f k ls = some (water ls, cold ls) := by
  unfold pack_sums.f
  have := sums_loop ls hr hl ls.length k 0 0 0 (by omega) hk (by omega) (by omega) (by omega) (by omega)
  simpa using this
theorem check_loop (ls : List Ly) (hl : ls.length ≤ 64) : ∀ (d k i : Nat), i + d = ls.length → d + 65 < k → Rights (ls.take i) →
    pack_Check.l0 k ls (ls.length : Int) (i : Int) ls = some (checkE ls) := by
  intro d
  induction d with
  | zero =>
    intro k i hi hk h
    obtain ⟨k, rfl⟩ : ∃ j, k = j + 1 := ⟨k - 1, by omega⟩
    rw [List.take_of_length_le (by omega)] at h
    unfold pack_Check.l0
    rw [if_neg (by omega), sums_eq h (by omega) (by omega)]
    simp only [Option.bind_some, checkE]
    by_cases hw : water ls > 65536
    · rw [if_pos hw, if_neg (fun hv : Valid ls => by have := hv.2.2.1; omega)]
    · rw [if_neg hw]
      by_cases hc : cold ls > 65536
      · rw [if_pos hc, if_neg (fun hv : Valid ls => by have := hv.2.2.2; omega)]
      · rw [if_neg hc, if_pos (show Valid ls from ⟨hl, h, by omega, by omega⟩)]
  | succ d ih =>
    intro k i hi hk h
    obtain ⟨k, rfl⟩ : ∃ j, k = j + 1 := ⟨k - 1, by omega⟩
    unfold pack_Check.l0
    rw [if_pos (by omega), if_pos (by omega), if_pos (by omega), right_eq]
    simp only [Option.bind_some, decide_eq_true_eq]
    have hd := rd_drop (show i < ls.length by omega)
    by_cases hr : Right (rd_T48 ls (i : Int))
    · rw [if_pos (by exact hr), wr ((i : Int) + 1) (by omega)]
      have := ih k (i + 1) (by omega) (by omega) (by
        intro x hx
        rw [List.take_add_one] at hx
        rcases List.mem_append.mp hx with hx | hx
        · exact h x hx
        · have e : ls[i]?.toList = [rd_T48 ls (i : Int)] := by
            simp [rd_T48, List.getD_eq_getElem?_getD, show i < ls.length by omega]
          rw [e] at hx
          rw [List.mem_singleton.mp hx]
          exact hr)
      push_cast at this
      exact this
    · rw [if_neg (by exact hr), checkE, if_neg]
      intro hv
      exact hr (hv.2.1 _ (by
        have : rd_T48 ls (i : Int) ∈ ls.drop i := by rw [hd]; exact List.mem_cons_self
        exact List.mem_of_mem_drop this))
theorem check_eq {k : Nat} (hk : 130 ≤ k) (ls : List Ly) : pack_Check.f k ls = some (checkE ls) := by
  unfold pack_Check.f
  by_cases h : (ls.length : Int) > 64
  · rw [if_pos h, checkE, if_neg (by rintro ⟨h1, _⟩; omega)]
  · rw [if_neg h]
    exact check_loop ls (by omega) ls.length k 0 (by omega) (by omega) (by intro x hx; simp at hx)
theorem checkE_zero {ls : List Ly} : checkE ls = 0 ↔ Valid ls := by
  unfold checkE
  split <;> simp_all
theorem checkE_pos {ls : List Ly} (h : Valid ls) : checkE ls = 0 := checkE_zero.2 h
theorem checkE_neg {ls : List Ly} (h : ¬ Valid ls) : checkE ls = 20 := if_neg h
instance : DecidableEq Ly := fun a b => decidable_of_iff (a.f0 = b.f0 ∧ a.f1 = b.f1 ∧ a.f2 = b.f2) ⟨fun h => Ly.ext' h.1 h.2.1 h.2.2, fun h => by rw [h]; exact ⟨rfl, rfl, rfl⟩⟩
end Go.Proofs.YtpldcikmlpegpaaDoor.Plain
end
section
namespace Go.Proofs.YtpldcikmlpegpaaDoor.Plain
open Go.RowKit Go.Proofs.YtpldcikmlpegpaaDoor.PB Go.Proofs.YtpldcikmlpegpaaDoor.Col Go.Proofs.YtpldcikmlpegpaaDoorW.PrintWords Go.Proofs.YtpldcikmlpegpaaDoorW.PrintMore
theorem mn_min (a b : Int) : mn a b = min a b := by unfold mn; split <;> omega
theorem mx_max (a b : Int) : mx a b = max a b := by unfold mx; split <;> omega
def St (c : C) (n : Nat) (L : List Ly) (o t : Int) : Prop :=
  c.n = n ∧ c.out = o ∧ c.taken = t ∧ ∃ pre post, c.at_ = pre ++ L ++ post ∧ pre.length = c.top ∧ c.top + L.length = n
theorem St.live {c : C} {n : Nat} {L : List Ly} {o t : Int} (h : St c n L o t) : c.live = L := by
  obtain ⟨h1, h2, h3, pre, post, h4, h5, h6⟩ := h
  unfold C.live
  rw [h4, ← h5, List.append_assoc, List.drop_left, show c.n - pre.length = L.length by omega, List.take_left]
theorem st_of (l : List Ly) : St (C.of l) (l.length + 1) l 0 0 :=
  ⟨rfl, rfl, rfl, [z48], List.replicate (64 - l.length) z48, rfl, rfl, by show 1 + l.length = _; omega⟩
theorem stepW_into {l : Ly} {m : Int} (h : Fit l) (hm : 0 ≤ m) (hw : l.f0 + l.f1 + m ≤ 1099511627776) (hc : l.f2 ≤ 1099511627776) : stepW l m = into l m := by
  obtain ⟨a, b, c, d⟩ := h
  have h0 : 0 ≤ l.f0 + min m l.f2 := by omega
  unfold stepW into
  simp only [mn_min]
  rw [wr (l.f0 + min m l.f2) (by omega), Int.tdiv_eq_ediv_of_nonneg h0, wr (m - min m l.f2) (by omega), wr ((l.f0 + min m l.f2) / 20) (by omega), wr ((l.f0 + min m l.f2) / 20 - l.f1) (by omega)]
  rw [wr (l.f1 + _) (by omega), wr (l.f2 - _) (by omega), wr (m - min m l.f2 - _) (by omega)]
theorem get_mid (pre : List Ly) (l : Ly) (post : List Ly) : (pre ++ l :: post).getD pre.length z48 = l := by
  simp [List.getD_eq_getElem?_getD]
theorem set_mid (pre : List Ly) (l x : Ly) (post : List Ly) : (pre ++ l :: post).set pre.length x = pre ++ x :: post := by
  simp [List.set_append]
theorem flowAt_flow : ∀ (L pre post : List Ly) (m : Int), Fits L → 0 ≤ m → water L + m ≤ 1099511627776 → cold L ≤ 1099511627776 →
    flowAt L.length (pre ++ L ++ post) pre.length m = (pre ++ (flow L m).1 ++ post, (flow L m).2) := by
  intro L
  induction L with
  | nil => intro pre post m _ _ _ _; rfl
  | cons l ls ih =>
    intro pre post m hf hm hw hc
    have f := hf.head
    have w0 := water_nonneg hf.tail
    have c0 := cold_nonneg hf.tail
    simp only [water, cold] at hw hc
    obtain ⟨a, b, c, d⟩ := f
    simp only [List.length_cons, flowAt, flow]
    split
    · have e : pre ++ (l :: ls) ++ post = pre ++ l :: (ls ++ post) := by simp
      have hs : stepW l m = into l m := stepW_into hf.head hm (by omega) (by omega)
      rw [e, get_mid, set_mid, hs]
      obtain ⟨g, r⟩ := into_fit hf.head hm
      have hiw := into_water l m
      have hg := g
      obtain ⟨a', b', c', d'⟩ := hg
      have e2 : pre ++ (into l m).1 :: (ls ++ post) = (pre ++ [(into l m).1]) ++ ls ++ post := by simp
      have e3 : pre.length + 1 = (pre ++ [(into l m).1]).length := by simp
      rw [e2, e3, ih (pre ++ [(into l m).1]) post (into l m).2 hf.tail r (by omega) (by omega)]
      simp
    · rfl
theorem c_lose {c : C} {n : Nat} {l : Ly} {ls : List Ly} {o t more : Int} (h : St c n (l :: ls) o t) (hl : Live (l :: ls)) (hm : 0 ≤ more) (hm1 : more ≤ 1) (ho : 0 ≤ o) (hw : water (l :: ls) + o ≤ 549755813888) (hc : cold (l :: ls) ≤ 549755813888) :
    St (c.lose more) n (lose1 l ls more).1 (o + (lose1 l ls more).2) t := by
  obtain ⟨h1, h2, h3, pre, post, h4, h5, h6⟩ := h
  have hk := lose1_live hl hm
  have hkw := lose1_water hl hm
  have wn := water_nonneg hk.1.fits
  obtain ⟨⟨a, b, cc, d⟩, i1⟩ := hl.head
  have w0 := water_nonneg hl.tail.fits
  have c0 := cold_nonneg hl.tail.fits
  have hw' := hw
  have hc' := hc
  simp only [water, cold] at hw' hc'
  obtain ⟨r0, r1⟩ := lose1_rest (more := more) hl.head.1 hl.head.2 hm
  have e : pre ++ (l :: ls) ++ post = pre ++ l :: (ls ++ post) := by simp
  have hd : 0 ≤ l.f0 - 1 := by omega
  have hL : loseW l more = (⟨l.f0 - 1, min (l.f1 + more) ((l.f0 - 1) / 20), l.f2⟩, l.f1 + more - min (l.f1 + more) ((l.f0 - 1) / 20)) := by
    unfold loseW
    simp only [mn_min]
    rw [wr (l.f0 - 1) (by omega), wr (l.f1 + more) (by omega), Int.tdiv_eq_ediv_of_nonneg hd, wr ((l.f0 - 1) / 20) (by omega), wr (l.f1 + more - _) (by omega)]
  have hln : c.n - (c.top + 1) = ls.length := by simp only [List.length_cons] at h6; omega
  have hfl := flowAt_flow ls (pre ++ [⟨l.f0 - 1, min (l.f1 + more) ((l.f0 - 1) / 20), l.f2⟩]) post (l.f1 + more - min (l.f1 + more) ((l.f0 - 1) / 20)) hl.tail.fits r0 (by omega) (by omega)
  have e2 : pre ++ (⟨l.f0 - 1, min (l.f1 + more) ((l.f0 - 1) / 20), l.f2⟩ : Ly) :: (ls ++ post) = (pre ++ [⟨l.f0 - 1, min (l.f1 + more) ((l.f0 - 1) / 20), l.f2⟩]) ++ ls ++ post := by simp
  have e3 : pre.length + 1 = (pre ++ [(⟨l.f0 - 1, min (l.f1 + more) ((l.f0 - 1) / 20), l.f2⟩ : Ly)]).length := by simp
  have hat : c.at_.getD c.top z48 = l := by rw [h4, ← h5, e, get_mid]
  have hset : c.at_.set c.top (loseW l more).1 = (pre ++ [⟨l.f0 - 1, min (l.f1 + more) ((l.f0 - 1) / 20), l.f2⟩]) ++ ls ++ post := by rw [h4, ← h5, e, set_mid, hL, ← e2]
  have hr : flowAt (c.n - (c.top + 1)) (c.at_.set c.top (loseW l more).1) (c.top + 1) (loseW l more).2 = ((pre ++ [⟨l.f0 - 1, min (l.f1 + more) ((l.f0 - 1) / 20), l.f2⟩]) ++ (flow ls (l.f1 + more - min (l.f1 + more) ((l.f0 - 1) / 20))).1 ++ post, (flow ls (l.f1 + more - min (l.f1 + more) ((l.f0 - 1) / 20))).2) := by
    rw [hset, hln, hL, ← h5, e3]
    exact hfl
  have hsnd : (lose1 l ls more).2 = (flow ls (l.f1 + more - min (l.f1 + more) ((l.f0 - 1) / 20))).2 := by
    simp only [lose1]
    split <;> rfl
  have hfl' : (flow ls (l.f1 + more - min (l.f1 + more) ((l.f0 - 1) / 20))).1.length = ls.length := flow_length _ _
  unfold C.lose
  simp only [hat, hr]
  refine ⟨h1, ?_, h3, ?_⟩
  · show wrap64 (c.out + _) = _
    rw [h2, ← hsnd, wr _ (by omega)]
  · rw [wr (l.f0 - 1) (by omega)]
    simp only [lose1]
    simp only [List.length_cons] at h6
    by_cases hz : l.f0 - 1 = 0
    · rw [if_pos hz, if_pos hz]
      exact ⟨_, post, rfl, by simp [h5], by rw [hfl']; omega⟩
    · rw [if_neg hz, if_neg hz]
      exact ⟨pre, post, by simp, h5, by simp only [List.length_cons]; rw [hfl']; omega⟩
theorem c_melt {c : C} {n : Nat} {l : Ly} {ls : List Ly} {o t : Int} (h : St c n (l :: ls) o t) (hl : Live (l :: ls)) (ho : 0 ≤ o) (hw : water (l :: ls) + o ≤ 549755813888) (hc : cold (l :: ls) ≤ 549755813888) :
    St c.melt n (melt1 (l :: ls)).1 (o + (melt1 (l :: ls)).2) (t + 0) := by
  obtain ⟨h1, h2, h3, pre, post, h4, h5, h6⟩ := id h
  have e : pre ++ (l :: ls) ++ post = pre ++ l :: (ls ++ post) := by simp
  have hat : c.at_.getD c.top z48 = l := by rw [h4, ← h5, e, get_mid]
  have c0 := cold_nonneg hl.tail.fits
  have hc' := hc
  simp only [cold] at hc'
  unfold C.melt
  simp only [hat, melt1, Int.add_zero]
  split
  · refine ⟨h1, by simpa using h2, h3, pre, post, ?_, h5, by simpa using h6⟩
    show c.at_.set c.top _ = _
    rw [h4, ← h5, e, set_mid, wr (l.f2 - 1) (by omega)]
    simp
  · exact c_lose h hl (by omega) (by omega) ho hw hc
theorem c_vanish {c : C} {n : Nat} {l : Ly} {ls : List Ly} {o t : Int} (h : St c n (l :: ls) o t) (hl : Live (l :: ls)) (ho : 0 ≤ o) (ht : 0 ≤ t ∧ t ≤ 549755813888) (hw : water (l :: ls) + o ≤ 549755813888) (hc : cold (l :: ls) ≤ 549755813888) :
    St c.vanish n (vanish1 (l :: ls)).1 (o + (vanish1 (l :: ls)).2) (t + 1) := by
  obtain ⟨h1, h2, h3, r⟩ := c_lose h hl (Int.le_refl 0) (by omega) ho hw hc
  unfold C.vanish
  refine ⟨h1, h2, ?_, r⟩
  show wrap64 (c.taken + 1) = _
  rw [h.2.2.1, wr _ (by omega)]
theorem c_times {F : C → C} {f : List Ly → List Ly × Int} {d : Int} (hd : 0 ≤ d ∧ d ≤ 1) (hf : Round f d)
    (hF : ∀ {c : C} {n : Nat} {l : Ly} {ls : List Ly} {o t : Int}, St c n (l :: ls) o t → Live (l :: ls) → 0 ≤ o → 0 ≤ t → t ≤ 549755813888 → water (l :: ls) + o ≤ 549755813888 → cold (l :: ls) ≤ 549755813888 → St (F c) n (f (l :: ls)).1 (o + (f (l :: ls)).2) (t + d)) :
    ∀ (k : Nat) {c : C} {n : Nat} {L : List Ly} {o t : Int}, St c n L o t → Live L → 0 ≤ o → 0 ≤ t → t + (k : Int) ≤ 549755813888 → water L + o ≤ 549755813888 → cold L ≤ 549755813888 →
      St (C.times F k c) n (times f k L).1 (o + (times f k L).2.1) (t + d * (times f k L).2.2) := by
  intro k
  induction k with
  | zero => intro c n L o t h _ _ _ _ _ _; simpa [C.times, times] using h
  | succ k ih =>
    intro c n L o t h hl ho ht htk hw hc
    obtain ⟨h1, h2, h3, pre, post, h4, h5, h6⟩ := id h
    cases L with
    | nil =>
      simp only [List.length_nil] at h6
      simp only [C.times, times]
      rw [if_pos (by omega)]
      simpa using h
    | cons l ls =>
      simp only [List.length_cons] at h6
      simp only [C.times, times]
      rw [if_neg (by omega)]
      have hr := hF h hl ho ht (by omega) hw hc
      obtain ⟨q1, q2⟩ := hf.live hl
      have q3 := hf.water hl
      have q4 := hf.cold hl
      have := ih hr q1 (by omega) (by omega) (by push_cast at htk; omega) (by omega) (by omega)
      have e : o + (f (l :: ls)).2 + (times f k (f (l :: ls)).1).2.1 = o + ((f (l :: ls)).2 + (times f k (f (l :: ls)).1).2.1) := by omega
      have e' : t + d + d * (times f k (f (l :: ls)).1).2.2 = t + d * (1 + (times f k (f (l :: ls)).1).2.2) := by rw [Int.mul_add, Int.mul_one]; omega
      rw [e, e'] at this
      exact this
end Go.Proofs.YtpldcikmlpegpaaDoor.Plain
end
section
namespace Go.Proofs.YtpldcikmlpegpaaDoor.Plain
open Go.RowKit Go.Proofs.YtpldcikmlpegpaaDoor.PB Go.Proofs.YtpldcikmlpegpaaDoor.Col Go.Proofs.YtpldcikmlpegpaaDoorW.PrintWords Go.Proofs.YtpldcikmlpegpaaDoorW.PrintMore
theorem freezeAt_freezes : ∀ (L pre post : List Ly) (m : Int), Fits L → 0 ≤ m → m ≤ 549755813888 → water L ≤ 549755813888 →
    freezeAt L.length (pre ++ L ++ post) pre.length m = (pre ++ (freezes L m).1 ++ post, (freezes L m).2) := by
  intro L
  induction L with
  | nil => intro pre post m _ _ _ _; rfl
  | cons l ls ih =>
    intro pre post m hf hm hmm hw
    have w0 := water_nonneg hf.tail
    simp only [water] at hw
    obtain ⟨a, b, c, d⟩ := hf.head
    simp only [List.length_cons, freezeAt, freezes]
    have e : pre ++ (l :: ls) ++ post = pre ++ l :: (ls ++ post) := by simp
    rw [e, get_mid, set_mid, mn_min, wr (l.f0 + min m l.f1) (by omega), wr (l.f1 - min m l.f1) (by omega), wr (m - min m l.f1) (by omega)]
    have e2 : pre ++ (⟨l.f0 + min m l.f1, l.f1 - min m l.f1, l.f2⟩ : Ly) :: (ls ++ post) = (pre ++ [⟨l.f0 + min m l.f1, l.f1 - min m l.f1, l.f2⟩]) ++ ls ++ post := by simp
    have e3 : pre.length + 1 = (pre ++ [(⟨l.f0 + min m l.f1, l.f1 - min m l.f1, l.f2⟩ : Ly)]).length := by simp
    rw [e2, e3, ih _ post _ hf.tail (by omega) (by omega) (by omega)]
    simp
theorem c_freeze {c : C} {n : Nat} {L : List Ly} {o t m : Int} (h : St c n L o t) (hl : Live L) (hm : 0 ≤ m) (hmm : m ≤ 549755813888) (hw : water L ≤ 549755813888) (hc : cold L ≤ 549755813888) : St (c.freeze m) n (freeze L m) o t := by
  obtain ⟨h1, h2, h3, pre, post, h4, h5, h6⟩ := id h
  have hf := freezeAt_freezes L pre post m hl.fits hm hmm hw
  have hr : freezeAt (c.n - c.top) c.at_ c.top m = (pre ++ (freezes L m).1 ++ post, (freezes L m).2) := by
    rw [h4, ← h5, show c.n - pre.length = L.length by omega]
    exact hf
  obtain ⟨k1, k2, k3, k4, k5, k6⟩ := freezes_fit hl hm
  unfold C.freeze
  simp only [hr]
  cases hL : (freezes L m).1 with
  | nil =>
    have : L.length = 0 := by rw [hL] at k6; simpa using k6.symm
    rw [if_neg (by omega)]
    refine ⟨h1, h2, h3, pre, post, ?_, h5, ?_⟩
    · show pre ++ [] ++ post = _
      simp [freeze, hL, chill]
    · simp [freeze, hL, chill]; omega
  | cons x xs =>
    have hlen : L.length = xs.length + 1 := by rw [hL] at k6; simpa using k6.symm
    rw [if_pos (by omega)]
    have e : pre ++ (x :: xs) ++ post = pre ++ x :: (xs ++ post) := by simp
    have hx : cold (x :: xs) ≤ 549755813888 := by rw [← hL, k5]; exact hc
    have xl : Live (x :: xs) := by rw [← hL]; exact k1
    have c0 := cold_nonneg xl.tail.fits
    obtain ⟨a, b, cc, d⟩ := xl.head.1
    simp only [cold] at hx
    refine ⟨h1, h2, h3, pre, post, ?_, h5, ?_⟩
    · show (pre ++ (x :: xs) ++ post).set c.top _ = _
      rw [e, ← h5, get_mid, set_mid, wr (x.f2 + _) (by omega)]
      simp [freeze, hL, chill]
    · simp only [freeze, hL, chill, List.length_cons]
      omega
theorem c_rain {c : C} {n : Nat} {L : List Ly} {o t m : Int} (h : St c n L o t) (hl : Live L) (ho : 0 ≤ o) (hm : 0 ≤ m) (hw : water L + m + o ≤ 549755813888) (hc : cold L ≤ 549755813888) : St (c.rain m) n (flow L m).1 (o + (flow L m).2) t := by
  obtain ⟨h1, h2, h3, pre, post, h4, h5, h6⟩ := id h
  have hf := flowAt_flow L pre post m hl.fits hm (by omega) (by omega)
  have hr : flowAt (c.n - c.top) c.at_ c.top m = (pre ++ (flow L m).1 ++ post, (flow L m).2) := by
    rw [h4, ← h5, show c.n - pre.length = L.length by omega]
    exact hf
  have k1 := flow_fit hl.fits hm
  have k2 := flow_water L m
  have k3 := water_nonneg k1.1
  have k4 := flow_length L m
  unfold C.rain
  simp only [hr]
  refine ⟨h1, ?_, h3, pre, post, rfl, h5, ?_⟩
  · show wrap64 (c.out + _) = _
    rw [h2, wr _ (by omega)]
  · show c.top + _ = _
    omega
def StepOk (k m cd : Int) : Prop := (1 ≤ k ∧ k ≤ 6) ∧ (0 ≤ m ∧ m ≤ 65536) ∧ (0 ≤ cd ∧ cd ≤ if k = 1 then 65536 else 0)
instance (k m cd : Int) : Decidable (StepOk k m cd) := inferInstanceAs (Decidable (_ ∧ _))
def doStep (L : List Ly) (k m cd : Int) : List Ly × Int :=
  if k = 1 then (if 0 < m then (⟨m, 0, cd⟩ :: L, 0) else (L, 0)) else if k = 2 then flow L m
  else if k = 3 then ((times melt1 m.toNat L).1, (times melt1 m.toNat L).2.1)
  else if k = 4 then (freeze L m, 0) else ((times vanish1 m.toNat L).1, (times vanish1 m.toNat L).2.1)
def stepE (k m cd : Int) : Int := if StepOk k m cd then 0 else 21
def applyP (L : List Ly) (k m cd : Int) : List Ly × Int × Int :=
  if Valid L then (if StepOk k m cd then (if Valid (doStep L k m cd).1 then ((doStep L k m cd).1, (doStep L k m cd).2, 0) else ([], 0, 2)) else ([], 0, 21)) else ([], 0, 20)
theorem step_eq {j : Nat} (k m cd : Int) : pack_CheckStep.f (j + 1) k m cd = some (stepE k m cd) := by
  unfold pack_CheckStep.f stepE
  simp only [pack_CheckStep.j0, from_eq, Option.bind_some, decide_eq_true_eq]
  by_cases h1 : 1 ≤ k ∧ k ≤ 6
  · by_cases h2 : 0 ≤ m ∧ m ≤ 65536
    · by_cases hk : k = 1
      · by_cases h3 : 0 ≤ cd ∧ cd ≤ 65536
        · rw [if_pos hk, if_pos h1, if_pos h2, if_pos h3, if_pos (show StepOk k m cd from ⟨h1, h2, by rw [if_pos hk]; exact h3⟩)]
        · rw [if_pos hk, if_pos h1, if_pos h2, if_neg h3, if_neg (fun h : StepOk k m cd => h3 (by have := h.2.2; rw [if_pos hk] at this; exact this))]
      · by_cases h3 : 0 ≤ cd ∧ cd ≤ 0
        · rw [if_neg hk, if_pos h1, if_pos h2, if_pos h3, if_pos (show StepOk k m cd from ⟨h1, h2, by rw [if_neg hk]; exact h3⟩)]
        · rw [if_neg hk, if_pos h1, if_pos h2, if_neg h3, if_neg (fun h : StepOk k m cd => h3 (by have := h.2.2; rw [if_neg hk] at this; exact this))]
    · rw [if_neg (fun h : StepOk k m cd => h2 h.2.1)]
      split <;> rfl
  · rw [if_neg (fun h : StepOk k m cd => h1 h.1)]
    split <;> rfl
theorem Valid.bounds {L : List Ly} (h : Valid L) : water L + 0 ≤ 549755813888 ∧ cold L ≤ 549755813888 := by
  obtain ⟨_, _, a, b⟩ := h
  omega
theorem step_st {L : List Ly} {k m cd : Int} (hv : Valid L) (hs : StepOk k m cd) : ∃ t, St ((C.of L).step k m cd) (L.length + 1) (doStep L k m cd).1 (doStep L k m cd).2 t := by
  have h0 := st_of L
  obtain ⟨b1, b2⟩ := hv.bounds
  have hl := hv.live
  obtain ⟨hk, hm, hc⟩ := hs
  obtain ⟨_, _, v1, v2⟩ := id hv
  unfold C.step doStep
  by_cases k1 : k = 1
  · rw [if_pos k1, if_pos k1]
    split
    · refine ⟨0, rfl, rfl, rfl, [], List.replicate (64 - L.length) z48, rfl, rfl, ?_⟩
      show 0 + (L.length + 1) = _
      omega
    · exact ⟨0, h0⟩
  · rw [if_neg k1, if_neg k1]
    by_cases k2 : k = 2
    · rw [if_pos k2, if_pos k2]
      have := c_rain h0 hl (Int.le_refl 0) hm.1 (by omega) b2
      exact ⟨0, by simpa using this⟩
    · rw [if_neg k2, if_neg k2]
      by_cases k3 : k = 3
      · rw [if_pos k3, if_pos k3]
        have := c_times (F := C.melt) (d := 0) (by omega) melt_round (fun h hl ho _ _ hw hc => c_melt h hl ho hw hc) m.toNat h0 hl (Int.le_refl 0) (Int.le_refl 0) (by omega) b1 b2
        exact ⟨_, by simpa using this⟩
      · rw [if_neg k3, if_neg k3]
        by_cases k4 : k = 4
        · rw [if_pos k4, if_pos k4]
          exact ⟨0, c_freeze h0 hl hm.1 (by omega) (by omega) b2⟩
        · rw [if_neg k4, if_neg k4, if_pos (by omega)]
          have := c_times (F := C.vanish) (d := 1) (by omega) vanish_round (fun h hl ho ht ht2 hw hc => c_vanish h hl ho ⟨ht, ht2⟩ hw hc) m.toNat h0 hl (Int.le_refl 0) (Int.le_refl 0) (by omega) b1 b2
          exact ⟨_, by simpa using this⟩
theorem apply_eq (L : List Ly) (k m cd : Int) : pack_Apply.f L k m cd = some (applyP L k m cd) := by
  unfold pack_Apply.f applyP
  rw [check_eq (by omega), step_eq (j := 4)]
  simp only [Option.bind_some]
  by_cases hv : Valid L
  · rw [checkE_pos hv, if_pos rfl, if_pos hv]
    unfold stepE
    by_cases hs : StepOk k m cd
    · obtain ⟨t, hst⟩ := step_st hv hs
      rw [if_pos hs, if_pos rfl, if_pos hs, check_eq (by omega), hst.live, hst.2.1]
      simp only [Option.bind_some]
      by_cases hw : Valid (doStep L k m cd).1
      · rw [checkE_pos hw, if_pos rfl, if_pos hw]
      · rw [checkE_neg hw, if_neg (by omega), if_neg hw]
    · rw [if_neg hs, if_neg (by omega), if_neg hs]
  · rw [checkE_neg hv, if_neg (by omega), if_neg hv]
end Go.Proofs.YtpldcikmlpegpaaDoor.Plain
end
section
namespace Go.Proofs.YtpldcikmlpegpaaDoor.Plain
open Go.RowKit Go.Proofs.YtpldcikmlpegpaaDoor.PB
set_option maxRecDepth 100000 in
theorem sane_eq200 : snowlinelaw02_sane.f 200 = some true := by kernel_rfl
end Go.Proofs.YtpldcikmlpegpaaDoor.Plain
end
section
namespace Go.Proofs.YtpldcikmlpegpaaDoor.Plain
open Go.RowKit Go.Proofs.YtpldcikmlpegpaaDoor.PB Go.Proofs.YtpldcikmlpegpaaDoor.Col Go.Proofs.YtpldcikmlpegpaaDoorW.PrintWords Go.Proofs.YtpldcikmlpegpaaDoorW.PrintMore
theorem sane_eq : ∀ (k : Nat), 200 ≤ k → snowlinelaw02_sane.f k = some true := by
  intro k hk
  induction k with
  | zero => omega
  | succ k ih =>
    by_cases h : k + 1 = 200
    · rw [h]; exact sane_eq200
    · exact snowlinelaw02_sane.mono k _ (ih (by omega))
def room (l : Ly) : Int := l.f2 - l.f1 + (l.f0 + l.f2) / 20
def ready : List Ly → Int
  | [] => 0
  | l :: ls => room l + ready ls
theorem room_bound {l : Ly} (h : Fit l) : 0 ≤ room l ∧ room l ≤ 2 * l.f2 + l.f0 := by
  obtain ⟨a, b, c, d⟩ := h
  unfold room
  omega
theorem ready_bound {L : List Ly} (h : Fits L) : 0 ≤ ready L ∧ ready L ≤ 2 * cold L + water L := by
  induction L with
  | nil => simp [ready, cold, water]
  | cons l ls ih =>
    have := ih h.tail
    have := room_bound h.head
    obtain ⟨a, b, c, d⟩ := h.head
    simp only [ready, cold, water]
    omega
theorem ready_loop (ls : List Ly) (hr : Rights ls) (hl : ls.length ≤ 64) : ∀ (d k i : Nat) (s : Int), i + d = ls.length → d < k → 0 ≤ s → s ≤ 262144 * (i : Int) →
    pack_Ready.l0 k s ls (ls.length : Int) (i : Int) = some (s + ready (ls.drop i), 0) := by
  intro d
  induction d with
  | zero =>
    intro k i s hi hk _ _
    obtain ⟨k, rfl⟩ : ∃ j, k = j + 1 := ⟨k - 1, by omega⟩
    unfold pack_Ready.l0
    rw [if_neg (by omega), List.drop_eq_nil_of_le (by omega)]
    simp [ready]
  | succ d ih =>
    intro k i s hi hk h0 h1
    obtain ⟨k, rfl⟩ : ∃ j, k = j + 1 := ⟨k - 1, by omega⟩
    have hm : Right (rd_T48 ls (i : Int)) := hr _ (by
      have : rd_T48 ls (i : Int) ∈ ls.drop i := by rw [rd_drop (by omega)]; exact List.mem_cons_self
      exact List.mem_of_mem_drop this)
    have hrb := room_bound hm.live.1
    obtain ⟨a, b, cc, dd, e, f, g⟩ := hm
    unfold pack_Ready.l0
    rw [if_pos (by omega), if_pos (by omega), if_pos (by omega)]
    rw [rd_drop (show i < ls.length by omega)]
    simp only [ready, pack_hold.f, Option.bind_some]
    have h9 : 0 ≤ (rd_T48 ls (i : Int)).f0 + (rd_T48 ls (i : Int)).f2 := by omega
    rw [wr ((rd_T48 ls (i : Int)).f0 + _) (by omega), Int.tdiv_eq_ediv_of_nonneg h9, wr (((rd_T48 ls (i : Int)).f0 + _) / 20) (by omega), wr ((rd_T48 ls (i : Int)).f2 - _) (by omega), wr (s + _) (by omega), wr (s + _ + _) (by omega), wr ((i : Int) + 1) (by omega)]
    have := ih k (i + 1) (s + ((rd_T48 ls (i : Int)).f2 - (rd_T48 ls (i : Int)).f1) + ((rd_T48 ls (i : Int)).f0 + (rd_T48 ls (i : Int)).f2) / 20) (by omega) (by omega) (by unfold room at hrb; omega) (by unfold room at hrb; push_cast; omega)
    push_cast at this
    rw [this]
    unfold room
    congr 2
    omega
theorem ready_eq {k : Nat} (hk : 130 ≤ k) (L : List Ly) : pack_Ready.f k L = some (if Valid L then (ready L, 0) else (0, 20)) := by
  unfold pack_Ready.f
  rw [check_eq hk]
  simp only [Option.bind_some]
  by_cases hv : Valid L
  · rw [checkE_pos hv, if_pos rfl, if_pos hv]
    have := ready_loop L hv.2.1 hv.1 L.length k 0 0 (by omega) (by have := hv.1; omega) (by omega) (by omega)
    simpa using this
  · rw [checkE_neg hv, if_neg (by omega), if_neg hv]
theorem into_room {l : Ly} {m : Int} (h : Fit l) (hm : 0 ≤ m) : (into l m).2 = max 0 (m - room l) := by
  obtain ⟨a, b, c, d⟩ := h
  simp only [into, room]
  omega
theorem flow_ready {L : List Ly} : ∀ {m : Int}, Fits L → 0 ≤ m → (flow L m).2 = max 0 (m - ready L) := by
  induction L with
  | nil => intro m _ hm; simp [flow, ready]; omega
  | cons l ls ih =>
    intro m h hm
    have hb := ready_bound h.tail
    have hr := room_bound h.head
    simp only [flow, ready]
    split
    · have h2 := into_room h.head hm
      have h1 := ih h.tail (into_fit h.head hm).2
      dsimp only
      rw [h1, h2]
      omega
    · dsimp only
      omega
end Go.Proofs.YtpldcikmlpegpaaDoor.Plain
end
section
namespace Go.Proofs.YtpldcikmlpegpaaDoor.PurePackReady
open Go.RowKit Go.Proofs.YtpldcikmlpegpaaDoor.PB Go.Proofs.YtpldcikmlpegpaaDoor.Open Go.Proofs.YtpldcikmlpegpaaDoor.Plain
theorem pure (l : List Ly) (a1 : Int) (_ : ∀ x ∈ l, LyI x) (_ : i64 a1) : ∃ k, snowlinelaw02_PackReady.f k l a1 = some true := by
  refine ⟨200, ?_⟩
  unfold snowlinelaw02_PackReady.f
  rw [sane_eq 200 (by omega), ready_eq (by omega), apply_eq, check_eq (by omega)]
  simp only [Option.bind_some, if_true]
  by_cases hv : Valid l
  · rw [if_pos hv]
    simp only [if_true]
    have hb := ready_bound hv.live.fits
    obtain ⟨_, _, v1, v2⟩ := id hv
    unfold applyP
    rw [if_pos hv]
    by_cases hs : StepOk 2 a1 0
    · rw [if_pos hs]
      obtain ⟨_, hm, _⟩ := hs
      by_cases hw : Valid (doStep l 2 a1 0).1
      · rw [if_pos hw]
        simp only [if_true]
        rw [if_pos (show ready l ≥ 0 from hb.1), mx_max, wr (a1 - ready l) (by omega)]
        have : (doStep l 2 a1 0).2 = max 0 (a1 - ready l) := flow_ready hv.live.fits hm.1
        rw [this]
        simp
      · rw [if_neg hw]
        rfl
    · rw [if_neg hs]
      rfl
  · rw [if_neg hv, checkE_neg hv]
    rfl
end Go.Proofs.YtpldcikmlpegpaaDoor.PurePackReady
end
section
namespace Go.Proofs.YtpldcikmlpegpaaDoor.packReady
open Go.ChangeShapes Go.WideShapes Go.ChangeAt Go.RowKit Go.Proofs.YtpldcikmlpegpaaDoor.Open Go.Proofs.YtpldcikmlpegpaaDoor.PB
set_option linter.unusedVariables false
set_option maxRecDepth 100000 in
theorem lifted (os : Os) (started : os.Started) (H : Type) (enc : TypeId × Value → H) :
    ReturnsInHanded {} Tryd.checked os 6 .any (fun w args => (Rows.packReadySpec.pre enc Tryd.prog Tryd.f6 [] false w args ∧ laidMetH Tryd.prog laid3 w) ∧ sizedMet enc Tryd.prog Tryd.f6 (OpenSpec.ofChange Rows.packReadySpec) false w args)
      (Rows.packReadySpec.post enc Tryd.prog Tryd.f6 false true false false) := by
  refine returnsInHanded_of_change_and (C := Tryd.checked) (X := fun w _ => laidMetH Tryd.prog laid3 w) (fun _ _ _ hh h => h.of_heap hh) own started (by kernel_rfl) Tryd.func6
    (ChangeSpec.witness_shaped (enc := enc) (C := Tryd.checked) (os := os) (X := fun w _ => laidMetH Tryd.prog laid3 w) false (World.doorLaid Tryd.prog 400 os) #[.agg #[.slice none 0 0], .int .i64 0] 8 rfl (World.shaped_of_RefB (by kernel_rfl) (by kernel_rfl)) (by kernel_rfl) (by kernel_rfl) (by kernel_rfl) (door_met os _)) ?_
  intro W base args ds gs before hval0 hW _ _ hL _
  have hval : ∀ (j : Nat) t v, Tryd.f6.params[j]? = some t → args[j]? = some v → Value.okWide Tryd.prog W .any base t v := hval0
  have hW' := hW
  obtain ⟨p, q, hA0, hV, rfl, hfz, hnd⟩ := hW
  have hA : DataW.TrodAll enc Tryd.prog W 0 (fun _ => true) true Tryd.f6.params.toList args.toList ds p := hA0
  rw [Tryd.params6] at hA hval
  obtain ⟨v0, vs0, d0, ds0, p0, q0, hargs, rfl, rfl, h0, r0⟩ := trodAll_cons hA
  obtain ⟨v1, vs1, d1, ds1, p1, q1, rfl, rfl, rfl, h1, r1⟩ := trodAll_cons r0
  obtain ⟨rfl, rfl, rfl⟩ := trodAll_nil r1
  obtain rfl : args = #[v0, v1] := by cases args; simp_all
  obtain ⟨rfl, rfl⟩ := trodVars_none hV
  have k0 := h0
  have lt0 : ∀ x ∈ p0, x.block < W.heap.size := by obtain ⟨m, hm⟩ := k0; exact DataW.trod_lt m _ _ _ hm
  obtain ⟨A0, c0, l0, rfl, hl0, hC0, hi0⟩ := open_pack (hval 0 24 v0 rfl rfl) h0
  have k1 := h1
  have lt1 : ∀ x ∈ p1, x.block < W.heap.size := by obtain ⟨m, hm⟩ := k1; exact DataW.trod_lt m _ _ _ hm
  obtain ⟨a1, rfl, _, _, w1⟩ := open_int Tryd.underlying3 (hval 1 3 v1 rfl rfl) h1
  clear hA0 hval0
  obtain ⟨k, h⟩ := PurePackReady.pure l0 a1 hi0 w1
  refine (snowlinelaw02_PackReady.calls k A0 c0 l0 a1 true W hC0 hl0 (glob_of hL) h).mono ?_
  rintro e W' ⟨rfl, bel⟩
  exact ⟨_, rfl, _, _, _, [], _, [], hW', trodAll_mk1 (shut_bool Tryd.underlying4 _), (trodAll_cons_mk (Below.trod laidOut (by kernel_rfl) (of_decide_eq_true (by kernel_rfl)) k0 bel lt0) (trodAll_cons_mk (Below.trod laidOut (by kernel_rfl) (of_decide_eq_true (by kernel_rfl)) k1 bel lt1) trodAll_mk0)), rfl, bel.frame _, fun h => by cases h⟩
theorem over : Rows.PackReadySaid :=
  OpenClaim.holds_of_wide 6 Tryd.f6 rfl rfl rfl rfl rfl rfl rfl ⟨rfl, rfl, rfl, rfl, rfl⟩ rfl rfl rfl rfl rfl (by kernel_rfl) Tryd.func6 (by kernel_rfl)
    (of_decide_eq_true (by kernel_rfl)) (by unfold Func.isWrapper; first | (rw [if_pos (by decide +kernel)]; kernel_rfl) | (rw [if_neg (by decide +kernel)]; exact ⟨rfl, rfl⟩))
    (fun os started H enc _ => lifted os started H enc)
theorem card_holds : Rows.PackReadyCardSaid :=
  Claim7.holds_tied_plain_at .later [] [.data, .data, .data] true (true, "e4590a7662fcc404b2e76501190c3f3756a1f45f85c3a8ba53dbb8ae7a261990") false
    over (fun _ h => by cases h) (by kernel_rfl) (fun _ h => by cases h) packReady_row_tie rfl ⟨rfl, rfl⟩ (by kernel_rfl) rfl
    (fun f fn hf hfn => by
      obtain rfl : f = 6 := Option.some.inj ((show Tryd.prog.funcNamed "snowline/snowlinelaw02.PackReady" = some 6 by kernel_rfl).symm.trans hf) |>.symm
      obtain rfl : fn = Tryd.f6 := (Option.some.inj (Tryd.func6.symm.trans hfn)).symm
      exact ⟨by kernel_rfl, fun j t ht => by
        rw [Tryd.params6] at ht
        have hm : t ∈ [24, 3] := by simpa using Array.mem_of_getElem? ht
        have hall : ([24, 3].all fun u => !Tryd.prog.wantsStandIn u) = true := by kernel_rfl
        exact (show Tryd.prog.wantsStandIn t = false by simpa using List.all_eq_true.1 hall t hm)⟩)
    (by kernel_rfl)
end Go.Proofs.YtpldcikmlpegpaaDoor.packReady
end
