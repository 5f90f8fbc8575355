/-
snowlinelaw02.PackTexts is true (texts match the specification and are inverse), on the condition that the arguments hold together at most 1048576 values and letters (the second form, Upto).
-/
import Derived.Test.YtpldcikmlpegpaaGreatDoorTie
import Derived.Test.YtpldcikmlpegpaaGreatDoorCards
import Derived.SevenTiedAt
import Derived.Deep.DeepHandedRow
import Derived.Lay
import Derived.ChangeMaps5
import Derived.Test.YtpldcikmlpegpaaGreatDoorPackTextsA1
import Derived.Test.YtpldcikmlpegpaaGreatDoorPackTextsA2
import Derived.Test.YtpldcikmlpegpaaGreatDoorPackTextsA3
import Derived.Test.YtpldcikmlpegpaaGreatDoorPackTextsA4
import Derived.Test.YtpldcikmlpegpaaGreatDoorPackTextsA5
import Derived.Test.YtpldcikmlpegpaaGreatDoorPackTextsA6
section
namespace Go.Proofs.YtpldcikmlpegpaaGreatDoor.PB
open Go.RowKit Go.Proofs.YtpldcikmlpegpaaGreatDoorW.PrintWords Go.Proofs.YtpldcikmlpegpaaGreatDoorW.PrintLast Go.Proofs.YtpldcikmlpegpaaGreatDoorW.PrintMore
attribute [local go_sem] max2_int min2_int max_two min_two
theorem one_step (T : TypeId) {w W : World} {x y z : Int} {p : Nat} (hp : w.heap.size = p) (hW : w.alloc (.cells #[.int .i64 x, .int .i64 y, .int .i64 z] T (0, 0)) = W) :
    Aside0 (∀ wX : World, Below W.heap.size W wX → wX.cell? ⟨p, 0, none⟩ = some (.int .i64 x) ∧ wX.cell? ⟨p, 1, none⟩ = some (.int .i64 y) ∧ wX.cell? ⟨p, 2, none⟩ = some (.int .i64 z)) := by
  subst hp hW
  refine ⟨fun wX hb => ?_⟩
  have h := blk_below (blk_new w (.cells #[.int .i64 x, .int .i64 y, .int .i64 z] T (0, 0))) hb
  exact ⟨(blk_cell h 0).trans rfl, (blk_cell h 1).trans rfl, (blk_cell h 2).trans rfl⟩
def TextsOk (K : Nat) (s0 s1 s2 : Int) (l0 : List S47) (t a : ByteArray) (b e0 e1 e2 f : Int) (i : ByteArray) (j : Int) (m : List S47) (n : Int) : Prop :=
  pack_PrintStep.f s0 s1 s2 = some (a, b) ∧ snowlineref02_PrintStep.f s0 s1 s2 = some (a, b) ∧ pack_ParseStep.f K t = some (e0, e1, e2, f) ∧ snowlineref02_ParseStep.f K t = some (e0, e1, e2, f) ∧
  pack_Print.f K l0 = some (i, j) ∧ snowlineref02_Print.f K l0 = some (i, j) ∧ pack_Parse.f K t = some (m, n) ∧ snowlineref02_Parse.f K t = some (m, n) ∧ snowlineref02_Same.f K m m = some true ∧
  (b = 0 → pack_ParseStep.f K a = some (s0, s1, s2, 0)) ∧ (j = 0 → pack_Parse.f K i = some (l0, 0) ∧ snowlineref02_Same.f K l0 l0 = some true)
set_option maxRecDepth 100000 in
set_option maxHeartbeats 8000000 in
theorem packTexts_walk (s0 s1 s2 : Int) (A0 : Option Addr) (c0 : Nat) (l0 : List (S47)) (t : ByteArray) (fw : Bool) (kf k : Nat) (hfw : snowlinelaw02_few.f kf [(⟨l0⟩ : S26)] = some fw)
    (a : ByteArray) (b e0 e1 e2 f : Int) (i : ByteArray) (j : Int) (m : List S47) (n : Int) (hok : fw = true → TextsOk k s0 s1 s2 l0 t a b e0 e1 e2 f i j m n)
    (w : World) (hr0 : Kd.C k47 w A0 l0.length l0) (hc0 : l0.length ≤ c0) (hG : Glob w) :
    Calls Tryz.prog 3 #[.agg #[.int .i64 s0, .int .i64 s1, .int .i64 s2], .agg #[.slice A0 l0.length c0], .string t] w fun e w' => e = .returned (.bool true) ∧ Below w.heap.size w w' := by
  have hu23 := Tryz.underlying23
  have hu26 := Tryz.underlying26
  have HC0 := Aside0.mk hc0
  have HR0 := Aside0.mk hr0
  have HG := Aside0.mk hG
  replace hfw := Aside0.mk hfw
  have HOK := Aside0.mk hok
  clear hc0 hr0 hG hok
  go_enter Tryz.func3, Tryz.ntmps3
  go_upto_region 1 with (fail)
  obtain ⟨B, hB⟩ : ∃ B, w.heap.size = B := ⟨_, rfl⟩
  obtain ⟨V1, hV1⟩ : ∃ W1, w.alloc (.cells #[.int .i64 s0, .int .i64 s1, .int .i64 s2] 23 (0, 0)) = W1 := ⟨_, rfl⟩
  obtain ⟨W1, hW1⟩ : ∃ W1, V1.alloc (.cells #[.slice A0 l0.length c0] 26 (0, 0)) = W1 := ⟨_, rfl⟩
  have t1 : V1.heap.size = B + 1 := by rw [← hV1, ← hB]; simp
  have b2 : Below w.heap.size w W1 := by rw [← hW1, ← hV1]; exact below_alloc (below_alloc (Below.refl _ _) _) _
  have p0 : W1.heap[B]? = some (.cells #[.int .i64 s0, .int .i64 s1, .int .i64 s2] 23 (0, 0)) := by rw [← hW1]; refine blk_alloc ?_ _; rw [← hV1, ← hB]; exact blk_new _ _
  have p1 : W1.heap[B + 1]? = some (.cells #[.slice A0 l0.length c0] 26 (0, 0)) := by rw [← hW1, ← t1]; exact blk_new _ _
  rw [hV1, hW1, hB]
  have K : Aside0 (∀ wX : World, Below W1.heap.size W1 wX → (wX.cell? ⟨B, 0, none⟩ = some (.int .i64 s0) ∧ wX.cell? ⟨B, 1, none⟩ = some (.int .i64 s1) ∧ wX.cell? ⟨B, 2, none⟩ = some (.int .i64 s2)) ∧ wX.cell? ⟨B + 1, 0, none⟩ = some (.slice A0 l0.length c0) ∧ Kd.C k47 wX A0 l0.length l0 ∧ Glob wX ∧ Below w.heap.size w wX) :=
    ⟨fun wX hb => by
      have k0 := blk_below p0 hb
      exact ⟨⟨(blk_cell k0 0).trans rfl, (blk_cell k0 1).trans rfl, (blk_cell k0 2).trans rfl⟩, (blk_cell (blk_below p1 hb) 0).trans rfl, Kd.C_below HR0.out (below_step b2 hb), HG.out.below (below_step b2 hb) (Nat.le_refl _), below_step b2 hb⟩⟩
  clear hV1 hW1 t1 b2 p0 p1 hB HR0 HG
  go_wp2_with (first | fail)
  go_at_call 4
  refine (snowlinelaw02_sane.calls 200 true _ (K.out _ (Below.refl _ _)).2.2.2.1 rfl).mono ?_
  rintro e w2 ⟨rfl, hb⟩
  have H2 := Aside0.mk hb
  clear hb
  have q0 := (K.out _ H2.out).2.1
  go_wp2_with (first | fail)
  go_at_call 5
  refine (snowlinelaw02_few.calls kf _ 1 [⟨l0⟩] fw _ (packs_one (K.out _ H2.out).2.2.1 HC0.out) (Nat.le_refl _) hfw.out).mono ?_
  rintro e w3 ⟨rfl, ⟨nd, rfl⟩⟩
  have H3 := Aside0.mk (pw_below_drewN (below_alloc H2.out (.cells #[.slice A0 l0.length c0] 26 (0, 0))) nd)
  clear q0
  generalize (w2.alloc (.cells #[.slice A0 l0.length c0] 26 (0, 0))).drewN nd = w3 at H3 ⊢
  cases fw with
  | false =>
    go_wp2_with (first | fail)
    go_ret
    exact ⟨rfl, (K.out _ H3.out).2.2.2.2⟩
  | true =>
    obtain ⟨E1, E2, E3, E4, E5, E6, E7, E8, E9, E10, E11⟩ := HOK.out rfl
    replace E1 := Aside0.mk E1
    replace E2 := Aside0.mk E2
    replace E3 := Aside0.mk E3
    replace E4 := Aside0.mk E4
    replace E5 := Aside0.mk E5
    replace E6 := Aside0.mk E6
    replace E7 := Aside0.mk E7
    replace E8 := Aside0.mk E8
    replace E9 := Aside0.mk E9
    replace E10 := Aside0.mk E10
    replace E11 := Aside0.mk E11
    clear HOK hfw
    obtain ⟨q0, q1, q2⟩ := (K.out _ H3.out).1
    go_wp2_with (first | fail)
    go_at_call 6
    refine (pack_PrintStep.calls s0 s1 s2 a b _ (K.out _ H3.out).2.2.2.1 E1.out).mono ?_
    rintro e w4 ⟨rfl, hb⟩
    have H4 := Aside0.mk (below_step H3.out hb)
    clear hb q0 q1 q2
    obtain ⟨q0, q1, q2⟩ := (K.out _ H4.out).1
    go_wp2_with (first | fail)
    go_at_call 7
    refine (snowlineref02_PrintStep.calls s0 s1 s2 a b _ E2.out).mono ?_
    rintro e w5 ⟨rfl, hb⟩
    have H5 := Aside0.mk (below_step H4.out hb)
    clear hb q0 q1 q2
    go_wp2_with (first | fail)
    go_at_call 8
    refine (pack_ParseStep.calls k t e0 e1 e2 f _ (K.out _ H5.out).2.2.2.1 E3.out).mono ?_
    rintro e w6 ⟨rfl, hb⟩
    have H6 := Aside0.mk (below_step H5.out hb)
    clear hb
    go_upto_region 8 with (fail)
    obtain ⟨W6, hW6⟩ : ∃ W, w6.alloc (.cells #[.int .i64 e0, .int .i64 e1, .int .i64 e2] 23 (0, 0)) = W := ⟨_, rfl⟩
    obtain ⟨p6, hp6⟩ : ∃ p, w6.heap.size = p := ⟨_, rfl⟩
    have K6 := one_step 23 hp6 hW6
    have H6' : Aside0 (Below W1.heap.size W1 W6) := ⟨by rw [← hW6]; exact below_alloc H6.out _⟩
    rw [hW6, hp6]
    clear hW6 hp6
    go_wp2_with (first | fail)
    go_at_call 9
    refine (snowlineref02_ParseStep.calls k t e0 e1 e2 f _ E4.out).mono ?_
    rintro e w7 ⟨rfl, hb⟩
    have B7 := Aside0.mk hb
    clear hb
    go_upto_region 9 with (fail)
    obtain ⟨W7, hW7⟩ : ∃ W, w7.alloc (.cells #[.int .i64 e0, .int .i64 e1, .int .i64 e2] 23 (0, 0)) = W := ⟨_, rfl⟩
    obtain ⟨p7, hp7⟩ : ∃ p, w7.heap.size = p := ⟨_, rfl⟩
    have K7 := one_step 23 hp7 hW7
    have B7' : Aside0 (Below W6.heap.size W6 W7) := ⟨by rw [← hW7]; exact below_alloc B7.out _⟩
    rw [hW7, hp7]
    clear hW7 hp7 B7
    have q0 := (K.out _ (below_step H6'.out B7'.out)).2.1
    go_wp2_with (first | fail)
    go_at_call 10
    refine (pack_Print.calls k A0 c0 l0 i j _ (K.out _ (below_step H6'.out B7'.out)).2.2.1 HC0.out (K.out _ (below_step H6'.out B7'.out)).2.2.2.1 E5.out).mono ?_
    rintro e w8 ⟨rfl, hb⟩
    have B8 := Aside0.mk hb
    clear hb q0
    have H8 : Aside0 (Below W1.heap.size W1 w8) := ⟨below_step (below_step H6'.out B7'.out) B8.out⟩
    have q0 := (K.out _ H8.out).2.1
    go_wp2_with (first | fail)
    go_at_call 11
    refine (snowlineref02_Print.calls k A0 c0 l0 i j _ (K.out _ H8.out).2.2.1 HC0.out E6.out).mono ?_
    rintro e w9 ⟨rfl, hb⟩
    have B9 : Aside0 (Below W7.heap.size W7 w9) := ⟨below_step B8.out hb⟩
    have H9 : Aside0 (Below W1.heap.size W1 w9) := ⟨below_step H8.out hb⟩
    clear hb q0
    go_wp2_with (first | fail)
    go_at_call 12
    refine (pack_Parse.calls k t m n _ (K.out _ H9.out).2.2.2.1 E7.out).mono ?_
    rintro e w10 ⟨v10, rfl, hR, hb⟩
    obtain ⟨A10, c10, rfl⟩ := Kd.R_slice hR
    have B10 : Aside0 (Below W7.heap.size W7 w10) := ⟨below_step B9.out hb⟩
    have HX := Aside0.mk (Kd.R_reads' hR).2
    clear hb hR
    go_upto_region 12 with (fail)
    obtain ⟨W10, hW10⟩ : ∃ W, w10.alloc (.cells #[.slice A10 m.length c10] 26 (0, 0)) = W := ⟨_, rfl⟩
    obtain ⟨p10, hp10⟩ : ∃ p, w10.heap.size = p := ⟨_, rfl⟩
    have K10 := one_row 26 HX.out.2 hp10 hW10
    have B10' : Aside0 (Below W7.heap.size W7 W10) := ⟨by rw [← hW10]; exact below_alloc B10.out _⟩
    rw [hW10, hp10]
    clear hW10 hp10 B10
    go_wp2_with (first | fail)
    go_at_call 13
    refine (snowlineref02_Parse.calls k t m n _ E8.out).mono ?_
    rintro e w11 ⟨v11, rfl, hR, hb⟩
    obtain ⟨A11, c11, rfl⟩ := Kd.R_slice hR
    have B11 := Aside0.mk hb
    have HY := Aside0.mk (Kd.R_reads' hR).2
    clear hb hR
    go_upto_region 13 with (fail)
    obtain ⟨W11, hW11⟩ : ∃ W, w11.alloc (.cells #[.slice A11 m.length c11] 26 (0, 0)) = W := ⟨_, rfl⟩
    obtain ⟨p11, hp11⟩ : ∃ p, w11.heap.size = p := ⟨_, rfl⟩
    have K11 := one_row 26 HY.out.2 hp11 hW11
    have B11' : Aside0 (Below W10.heap.size W10 W11) := ⟨by rw [← hW11]; exact below_alloc B11.out _⟩
    rw [hW11, hp11]
    clear hW11 hp11 B11
    have B7_11 : Aside0 (Below W7.heap.size W7 W11) := ⟨below_step B10'.out B11'.out⟩
    have B6_11 : Aside0 (Below W6.heap.size W6 W11) := ⟨below_step B7'.out B7_11.out⟩
    have H11 : Aside0 (Below W1.heap.size W1 W11) := ⟨below_step H6'.out B6_11.out⟩
    obtain ⟨x0, x1, x2⟩ := K6.out _ B6_11.out
    obtain ⟨y0, y1, y2⟩ := K7.out _ B7_11.out
    have z0 := (K10.out _ B11'.out).1
    have z1 := (K11.out _ (Below.refl _ _)).1
    go_wp2_with (first | fail)
    go_at_call 14
    refine (snowlineref02_Same.calls k A10 c10 m A11 c11 m true _ (K10.out _ B11'.out).2 HX.out.1 (K11.out _ (Below.refl _ _)).2 HY.out.1 E9.out).mono ?_
    rintro e w12 ⟨rfl, hb⟩
    have H12 : Aside0 (Below W1.heap.size W1 w12) := ⟨below_step H11.out hb⟩
    clear hb x0 x1 x2 y0 y1 y2 z0 z1
    go_upto_region 15 with (fail)
    by_cases hb0 : b = 0
    case' pos =>
      have E := Aside0.mk (E10.out hb0)
      have zb : (b == 0) = true := by simp [hb0]
      clear hb0
      go_wp2_with (first | fail)
      go_at_call 8
      refine (pack_ParseStep.calls k a s0 s1 s2 0 _ (K.out _ H12.out).2.2.2.1 E.out).mono ?_
      rintro e w13 ⟨rfl, hb⟩
      have H13 := Aside0.mk (below_step H12.out hb)
      clear hb zb
      go_upto_region 17 with (fail)
      obtain ⟨W13, hW13⟩ : ∃ W, w13.alloc (.cells #[.int .i64 s0, .int .i64 s1, .int .i64 s2] 23 (0, 0)) = W := ⟨_, rfl⟩
      obtain ⟨p13, hp13⟩ : ∃ p, w13.heap.size = p := ⟨_, rfl⟩
      have K13 := one_step 23 hp13 hW13
      have HZ : Aside0 (Below W1.heap.size W1 W13) := ⟨by rw [← hW13]; exact below_alloc H13.out _⟩
      rw [hW13, hp13]
      clear hW13 hp13
      obtain ⟨x0, x1, x2⟩ := K13.out _ (Below.refl _ _)
      obtain ⟨y0, y1, y2⟩ := (K.out _ HZ.out).1
      go_upto_region 19 with (fail)
      clear x0 x1 x2 y0 y1 y2
    case' neg =>
      have zb : (b == 0) = false := by simp [hb0]
      clear hb0
      go_upto_region 19 with (fail)
      clear zb
      have HZ := H12
    all_goals
      by_cases hj0 : j = 0
      case neg =>
        have zj : (j == 0) = false := by simp [hj0]
        clear hj0
        go_wp2_with (first | fail)
        go_ret
        exact ⟨rfl, (K.out _ HZ.out).2.2.2.2⟩
      have zj : (j == 0) = true := by simp [hj0]
      have F1 := Aside0.mk (E11.out hj0).1
      have F2 := Aside0.mk (E11.out hj0).2
      clear hj0
      go_wp2_with (first | fail)
      go_at_call 12
      refine (pack_Parse.calls k i l0 0 _ (K.out _ HZ.out).2.2.2.1 F1.out).mono ?_
      rintro e w14 ⟨v14, rfl, hR, hb⟩
      obtain ⟨A14, c14, rfl⟩ := Kd.R_slice hR
      have H14 := Aside0.mk (below_step HZ.out hb)
      have HV := Aside0.mk (Kd.R_reads' hR).2
      clear hb hR zj
      go_upto_region 21 with (fail)
      obtain ⟨W14, hW14⟩ : ∃ W, w14.alloc (.cells #[.slice A14 l0.length c14] 26 (0, 0)) = W := ⟨_, rfl⟩
      obtain ⟨p14, hp14⟩ : ∃ p, w14.heap.size = p := ⟨_, rfl⟩
      have K14 := one_row 26 HV.out.2 hp14 hW14
      have H14' : Aside0 (Below W1.heap.size W1 W14) := ⟨by rw [← hW14]; exact below_alloc H14.out _⟩
      rw [hW14, hp14]
      clear hW14 hp14
      have z0 := (K14.out _ (Below.refl _ _)).1
      have z1 := (K.out _ H14'.out).2.1
      go_wp2_with (first | fail)
      go_at_call 14
      refine (snowlineref02_Same.calls k A14 c14 l0 A0 c0 l0 true _ (K14.out _ (Below.refl _ _)).2 HV.out.1 (K.out _ H14'.out).2.2.1 HC0.out F2.out).mono ?_
      rintro e w15 ⟨rfl, hb⟩
      have H15 := Aside0.mk (below_step H14'.out hb)
      clear hb z0 z1
      go_wp2_with (first | fail)
      go_ret
      exact ⟨rfl, (K.out _ H15.out).2.2.2.2⟩
end Go.Proofs.YtpldcikmlpegpaaGreatDoor.PB
end
section
namespace Go.Proofs.YtpldcikmlpegpaaGreatDoor.Spl
open Go Go.Lib Go.RowKit Go.Proofs.YtpldcikmlpegpaaGreatDoor.PB Go.Proofs.YtpldcikmlpegpaaGreatDoor.Plain Go.Proofs.YtpldcikmlpegpaaGreatDoorW.PrintWords Go.Proofs.YtpldcikmlpegpaaGreatDoorW.PrintLast Go.Proofs.YtpldcikmlpegpaaGreatDoorW.PrintMore
def splitT (c : UInt8) (s : ByteArray) : List ByteArray := splitB ⟨#[c]⟩ 0 (countB s ⟨#[c]⟩) s
theorem splitT_eq (c : UInt8) (s : ByteArray) (h : s.size ≤ 4294967280) : strings_Split.f s ⟨#[c]⟩ = some (splitT c s) := by
  unfold strings_Split.f
  rw [if_pos ⟨by omega, by show 1 ≤ 1; omega⟩]
  rfl
theorem splitT_bl (c : UInt8) (s : ByteArray) : (splitT c s).map bl = spl c (bl s) := split_spl s c
theorem spl_len (c : UInt8) : ∀ l : List UInt8, (spl c l).length ≤ l.length + 1 ∧ ∀ x ∈ spl c l, x.length ≤ l.length
  | [] => by simp [spl]
  | b :: l => by
    obtain ⟨h1, h2⟩ := spl_len c l
    unfold spl
    obtain ⟨y, r, hy⟩ := List.exists_cons_of_ne_nil (spl_ne c l)
    split
    · refine ⟨by simp only [List.length_cons]; omega, fun x hx => ?_⟩
      rcases List.mem_cons.1 hx with rfl | hx
      · simp
      · have := h2 x hx; simp only [List.length_cons]; omega
    · rw [hy] at h1 h2 ⊢
      refine ⟨by simp only [List.headD_cons, List.tail_cons, List.length_cons] at h1 ⊢; omega, fun x hx => ?_⟩
      simp only [List.headD_cons, List.tail_cons] at hx
      rcases List.mem_cons.1 hx with rfl | hx
      · have := h2 y List.mem_cons_self; simp only [List.length_cons]; omega
      · have := h2 x (List.mem_cons_of_mem _ hx); simp only [List.length_cons]; omega
theorem splitT_len (c : UInt8) (s : ByteArray) : (splitT c s).length ≤ s.size + 1 ∧ ∀ x ∈ splitT c s, x.size ≤ s.size := by
  obtain ⟨h1, h2⟩ := spl_len c (bl s)
  rw [← splitT_bl, bl_size] at h1
  rw [← splitT_bl, bl_size] at h2
  refine ⟨by simpa using h1, fun x hx => ?_⟩
  rw [← bl_size]
  exact h2 _ (List.mem_map_of_mem hx)
theorem splitT_ne (c : UInt8) (s : ByteArray) : splitT c s ≠ [] := by
  intro h
  have := splitT_bl c s
  rw [h] at this
  exact spl_ne c _ this.symm
theorem map_bl_inj : ∀ {xs ys : List ByteArray}, xs.map bl = ys.map bl → xs = ys
  | [], [], _ => rfl
  | [], y :: ys, h => by simp at h
  | x :: xs, [], h => by simp at h
  | x :: xs, y :: ys, h => by
    simp only [List.map_cons, List.cons.injEq] at h
    rw [bl_inj h.1, map_bl_inj h.2]
theorem splitT_join (c : UInt8) (s x : ByteArray) (r : List ByteArray) (hs : bl s = bl x ++ joinTail [c] (r.map bl)) (hx : c ∉ bl x) (hr : ∀ y ∈ r, c ∉ bl y) : splitT c s = x :: r := by
  apply map_bl_inj
  rw [splitT_bl, hs, spl_join c _ _ hx (by
    intro y hy
    obtain ⟨z, hz, rfl⟩ := List.mem_map.1 hy
    exact hr z hz)]
  rfl
theorem join_splitT (c : UInt8) (s x : ByteArray) (r : List ByteArray) (h : splitT c s = x :: r) : bl s = bl x ++ joinTail [c] (r.map bl) := by
  have h1 := join_spl c (bl s)
  rw [← splitT_bl, h] at h1
  exact h1.symm
def numsL (ws : List ByteArray) : List Int := ws.map fun s => (numberV s).1
def numsOk (ws : List ByteArray) : Bool := ws.all fun s => (numberV s).2
theorem rd_word {ws : List ByteArray} {i : Nat} (h : i < ws.length) : ws.drop i = rdOf ByteArray.empty ws (i : Int) :: ws.drop (i + 1) := by
  rw [List.drop_eq_getElem_cons h]
  congr 1
  simp [rdOf, List.getD_eq_getElem?_getD, h]
theorem numbers_loop (ws : List ByteArray) (hs : ∀ s ∈ ws, s.size ≤ 281474976710656) (hl : ws.length ≤ 1073741824) : ∀ (d k i : Nat) (acc : List Int) (ok : Bool), i + d = ws.length → d < k → acc.length = i →
    pack_numbers.l0 k acc ok ws (ws.length : Int) (i : Int) = some (acc ++ numsL (ws.drop i), ok && numsOk (ws.drop i)) := by
  intro d
  induction d with
  | zero =>
    intro k i acc ok hi hk _
    obtain ⟨k, rfl⟩ : ∃ j, k = j + 1 := ⟨k - 1, by omega⟩
    unfold pack_numbers.l0
    rw [if_neg (by omega), List.drop_eq_nil_of_le (by omega)]
    simp [numsL, numsOk]
  | succ d ih =>
    intro k i acc ok hi hk ha
    obtain ⟨k, rfl⟩ : ∃ j, k = j + 1 := ⟨k - 1, by omega⟩
    have hd := rd_word (show i < ws.length by omega)
    have hm : rdOf ByteArray.empty ws (i : Int) ∈ ws := by
      have : rdOf ByteArray.empty ws (i : Int) ∈ ws.drop i := by rw [hd]; exact List.mem_cons_self
      exact List.mem_of_mem_drop this
    have hsz := hs _ hm
    unfold pack_numbers.l0
    rw [if_pos (by omega), if_pos (by omega), if_pos (by omega), pack_number.f, if_pos hsz]
    simp only [Option.bind_some]
    rw [if_pos (by omega), wr ((i : Int) + 1) (by omega), hd]
    generalize rdOf ByteArray.empty ws (i : Int) = s
    have h1 := ih k (i + 1) (acc ++ [(numberV s).1]) (numberV s).2 (by omega) (by omega) (by simp; omega)
    have h2 := ih k (i + 1) (acc ++ [(numberV s).1]) false (by omega) (by omega) (by simp; omega)
    push_cast at h1 h2
    cases ok
    · rw [if_neg (by simp), h2]
      simp [numsL, numsOk]
    · rw [if_pos rfl, h1]
      simp [numsL, numsOk]
theorem numbers_eq (k : Nat) (ws : List ByteArray) (hs : ∀ s ∈ ws, s.size ≤ 281474976710656) (hl : ws.length ≤ 1073741824) (hk : ws.length < k) : pack_numbers.f k ws = some (numsL ws, numsOk ws) := by
  unfold pack_numbers.f
  have := numbers_loop ws hs hl ws.length k 0 [] true (by omega) hk rfl
  simpa using this
def dig (b : UInt8) : Bool := decide (48 ≤ (b.toNat : Int) ∧ (b.toNat : Int) ≤ 57)
def numG : List UInt8 → List Int → Option Int → List Int
  | [], acc, cur => acc ++ cur.toList
  | b :: l, acc, cur => if dig b then numG l acc (some (mn (cur.getD 0 * 10 + ((b.toNat : Int) - 48)) 1073741824)) else numG l (acc ++ cur.toList) none
theorem bt_drop {s : ByteArray} {i : Nat} (h : i < s.size) : ∃ b, (bl s).drop i = b :: (bl s).drop (i + 1) ∧ bt s (i : Int) = (b.toNat : Int) := by
  have hl : i < (bl s).length := by rw [bl_size]; exact h
  refine ⟨(bl s)[i], List.drop_eq_getElem_cons hl, ?_⟩
  unfold bt
  rw [dif_pos (by simpa using h)]
  rfl
theorem set_last (acc : List Int) (v u : Int) (n : Nat) (h : acc.length = n) : (acc ++ [v]).set n u = acc ++ [u] := by
  subst h
  simp
theorem rd_last (acc : List Int) (v : Int) (n : Nat) (h : acc.length = n) : rd (acc ++ [v]) (n : Int) = v := by
  subst h
  simp [rd]
theorem mn_range (x : Int) (h : 0 ≤ x) : 0 ≤ mn x 1073741824 ∧ mn x 1073741824 ≤ 1073741824 := by
  unfold mn
  split <;> omega
theorem dig0 (b : UInt8) : (none : Option Int).getD 0 * 10 + ((b.toNat : Int) - 48) = (b.toNat : Int) - 48 := by
  show (0 : Int) * 10 + _ = _
  omega
theorem j1_in (k : Nat) (s : ByteArray) (acc : List Int) (v : Int) (i : Nat) (b : UInt8) (hbt : bt s (i : Int) = (b.toNat : Int)) (hv : 0 ≤ v ∧ v ≤ 1073741824) (hi : i < s.size) (hs : s.size ≤ 1073741824) (ha : acc.length ≤ 1073741824) :
    snowlineref02_numerals.j1 (k + 1) s (acc ++ [v]) true (i : Int) false = snowlineref02_numerals.l0 k s (acc ++ [mn (v * 10 + ((b.toNat : Int) - 48)) 1073741824]) true ((i + 1 : Nat) : Int) := by
  have hb0 : 0 ≤ (b.toNat : Int) ∧ (b.toNat : Int) ≤ 255 := ⟨by omega, by have := b.toNat_lt; omega⟩
  have e1 : wrap64 ((i : Int) + 1) = ((i + 1 : Nat) : Int) := by rw [wr _ (by omega)]; omega
  have hlen : ((acc ++ [v]).length : Int) = (acc.length : Int) + 1 := by simp
  have e2 : wrap64 ((acc.length : Int) + 1 - 1) = (acc.length : Int) := by rw [wr _ (by omega)]; omega
  have e3 : rd (acc ++ [v]) (acc.length : Int) = v := rd_last acc v _ rfl
  have e4 : ∀ u, (acc ++ [v]).set acc.length u = acc ++ [u] := fun u => set_last acc v u _ rfl
  have e5 : wrap64 (wrap64 (wrap64 (v * 10) + wrap64 (b.toNat : Int)) - 48) = v * 10 + ((b.toNat : Int) - 48) := by
    rw [wr (v * 10) (by omega), wr (b.toNat : Int) (by omega), wr (v * 10 + _) (by omega), wr _ (by omega)]
    omega
  unfold snowlineref02_numerals.j1
  rw [if_neg (by simp), hbt, if_pos rfl, hlen, e2, if_pos (by omega), if_pos (by omega), if_pos (by omega), if_pos (by omega), e3, e5, Int.toNat_natCast, e4, e1]
theorem j1_out (k : Nat) (s : ByteArray) (acc : List Int) (i : Nat) (b : UInt8) (hbt : bt s (i : Int) = (b.toNat : Int)) (hi : i < s.size) (hs : s.size ≤ 1073741824) (ha : acc.length ≤ 1073741824) :
    snowlineref02_numerals.j1 (k + 1) s acc false (i : Int) false = snowlineref02_numerals.l0 k s (acc ++ [mn ((b.toNat : Int) - 48) 1073741824]) true ((i + 1 : Nat) : Int) := by
  have hb0 : 0 ≤ (b.toNat : Int) ∧ (b.toNat : Int) ≤ 255 := ⟨by omega, by have := b.toNat_lt; omega⟩
  have e1 : wrap64 ((i : Int) + 1) = ((i + 1 : Nat) : Int) := by rw [wr _ (by omega)]; omega
  have hlen : ((acc ++ [(0 : Int)]).length : Int) = (acc.length : Int) + 1 := by simp
  have e2 : wrap64 ((acc.length : Int) + 1 - 1) = (acc.length : Int) := by rw [wr _ (by omega)]; omega
  have e3 : rd (acc ++ [(0 : Int)]) (acc.length : Int) = 0 := rd_last acc 0 _ rfl
  have e4 : ∀ u, (acc ++ [(0 : Int)]).set acc.length u = acc ++ [u] := fun u => set_last acc 0 u _ rfl
  have e5 : wrap64 (wrap64 (wrap64 ((0 : Int) * 10) + wrap64 (b.toNat : Int)) - 48) = (b.toNat : Int) - 48 := by
    rw [wr ((0 : Int) * 10) (by omega), wr (b.toNat : Int) (by omega), wr ((0 : Int) * 10 + _) (by omega), wr _ (by omega)]
    omega
  unfold snowlineref02_numerals.j1
  rw [if_neg (by simp), if_neg (by simp), if_pos (by omega)]
  simp only [Option.bind_some]
  rw [hbt, hlen, e2, if_pos (by omega), if_pos (by omega), if_pos (by omega), if_pos (by omega), e3, e5, Int.toNat_natCast, e4, e1]
theorem numerals_loop (s : ByteArray) (hs : s.size ≤ 1073741824) : ∀ (d k i : Nat) (acc : List Int) (cur : Option Int), i + d = s.size → 2 * d < k → acc.length ≤ i → (∀ v, cur = some v → 0 ≤ v ∧ v ≤ 1073741824) →
    snowlineref02_numerals.l0 k s (acc ++ cur.toList) cur.isSome (i : Int) = some (numG ((bl s).drop i) acc cur) := by
  intro d
  induction d with
  | zero =>
    intro k i acc cur hi hk _ _
    obtain ⟨k, rfl⟩ : ∃ j, k = j + 1 := ⟨k - 1, by omega⟩
    unfold snowlineref02_numerals.l0
    rw [if_neg (by omega), List.drop_eq_nil_of_le (by rw [bl_size]; omega), numG]
  | succ d ih =>
    intro k i acc cur hi hk ha hc
    obtain ⟨k, rfl⟩ : ∃ j, k = j + 1 + 1 := ⟨k - 2, by omega⟩
    obtain ⟨b, hb, hbt⟩ := bt_drop (show i < s.size by omega)
    have hb0 : 0 ≤ (b.toNat : Int) ∧ (b.toNat : Int) ≤ 255 := ⟨by omega, by have := b.toNat_lt; omega⟩
    have e1 : wrap64 ((i : Int) + 1) = ((i + 1 : Nat) : Int) := by rw [wr _ (by omega)]; omega
    rw [hb, numG]
    unfold snowlineref02_numerals.l0
    rw [if_pos (by omega), if_pos (by omega), hbt]
    have skip : ∀ hx : dig b = false, snowlineref02_numerals.j1 (k + 1) s (acc ++ cur.toList) cur.isSome (i : Int) true = some (numG ((bl s).drop (i + 1)) (acc ++ cur.toList) none) := by
      intro _
      unfold snowlineref02_numerals.j1
      rw [if_pos rfl, e1]
      have := ih k (i + 1) (acc ++ cur.toList) none (by omega) (by omega) (by cases cur <;> simp <;> omega) (by intro v h; cases h)
      simpa using this
    by_cases h1 : (b.toNat : Int) < 48
    · have hx : dig b = false := by unfold dig; rw [decide_eq_false]; omega
      rw [if_pos h1, skip hx, hx]
      rfl
    · rw [if_neg h1]
      by_cases h2 : (b.toNat : Int) > 57
      · have hx : dig b = false := by unfold dig; rw [decide_eq_false]; omega
        rw [decide_eq_true h2, skip hx, hx]
        rfl
      · have hx : dig b = true := by unfold dig; rw [decide_eq_true]; omega
        rw [decide_eq_false h2, hx, if_pos rfl]
        cases cur with
        | some v =>
          have hv := hc v rfl
          have := j1_in k s acc v i b hbt hv (by omega) (by omega) (by omega)
          refine this.trans ?_
          exact ih k (i + 1) acc (some (mn (v * 10 + ((b.toNat : Int) - 48)) 1073741824)) (by omega) (by omega) (by omega) (fun u hu => Option.some.inj hu ▸ mn_range _ (by omega))
        | none =>
          have := j1_out k s acc i b hbt (by omega) (by omega) (by omega)
          rw [show acc ++ (none : Option Int).toList = acc from List.append_nil acc]
          refine this.trans ?_
          rw [dig0 b]
          exact ih k (i + 1) acc (some (mn ((b.toNat : Int) - 48) 1073741824)) (by omega) (by omega) (by omega) (fun u hu => Option.some.inj hu ▸ mn_range _ (by omega))
theorem numerals_eq (k : Nat) (s : ByteArray) (hs : s.size ≤ 1073741824) (hk : 2 * s.size < k) : snowlineref02_numerals.f k s = some (numG (bl s) [] none) := by
  unfold snowlineref02_numerals.f
  have := numerals_loop s hs s.size k 0 [] none (by omega) hk (by simp) (by intro v h; cases h)
  simpa using this
theorem numG_skip (b : UInt8) (l : List UInt8) (acc : List Int) (cur : Option Int) (h : dig b = false) : numG (b :: l) acc cur = numG l (acc ++ cur.toList) none := by rw [numG, h]; rfl
theorem numG_word : ∀ (x l : List UInt8) (acc : List Int), (∀ b ∈ x, dig b = false) → numG (x ++ l) acc none = numG l acc none
  | [], _, _, _ => rfl
  | b :: x, l, acc, h => by
    rw [List.cons_append, numG_skip b _ _ _ (h b List.mem_cons_self)]
    have := numG_word x l acc (fun c hc => h c (List.mem_cons_of_mem _ hc))
    simpa using this
theorem dig_true {b : UInt8} (h : isDig b) : dig b = true := by
  unfold isDig at h
  unfold dig
  rw [decide_eq_true]
  omega
theorem numG_dec (u : Nat) (hu : u ≤ 1073741824) (l : List UInt8) (acc : List Int) : numG (decDigits u ++ l) acc none = numG l acc (some (u : Int)) := by
  induction u using Nat.strongRecOn generalizing l with
  | _ u ih =>
    by_cases h : u < 10
    · obtain ⟨h1, h2⟩ := dig_of u h
      rw [decDigits_one h, List.singleton_append, numG, dig_true h1, if_pos rfl, h2]
      congr 2
      unfold mn
      simp only [Option.getD_none]
      rw [if_neg (by omega)]
      omega
    · obtain ⟨h1, h2⟩ := dig_of (u % 10) (by omega)
      rw [dec_big u h, List.append_assoc, ih (u / 10) (by omega) (by omega), List.singleton_append, numG, dig_true h1, if_pos rfl, h2]
      congr 2
      unfold mn
      simp only [Option.getD_some]
      rw [if_neg (by omega)]
      omega
theorem numG_itoa (n : Int) (h0 : 0 ≤ n) (h1 : n ≤ 65536) (l : List UInt8) (acc : List Int) : numG (itoa n ++ l) acc none = numG l acc (some n) := by
  rw [itoa_nat n h0, numG_dec n.toNat (by omega)]
  congr 2
  omega
end Go.Proofs.YtpldcikmlpegpaaGreatDoor.Spl
end
section
namespace Go.Proofs.YtpldcikmlpegpaaGreatDoor.Spl
open Go Go.Lib Go.RowKit Go.Proofs.YtpldcikmlpegpaaGreatDoor.PB Go.Proofs.YtpldcikmlpegpaaGreatDoor.Plain Go.Proofs.YtpldcikmlpegpaaGreatDoorW.PrintWords Go.Proofs.YtpldcikmlpegpaaGreatDoorW.PrintLast Go.Proofs.YtpldcikmlpegpaaGreatDoorW.PrintMore
def IsStep (t : ByteArray) (k m c : Int) : Prop := StepOk k m c ∧ PB.stepT k m c = t
instance (t : ByteArray) (k m c : Int) : Decidable (IsStep t k m c) := inferInstanceAs (Decidable (_ ∧ _))
theorem kinds {k : Int} (h : 1 ≤ k ∧ k ≤ 6) : k = 1 ∨ k = 2 ∨ k = 3 ∨ k = 4 ∨ k = 5 ∨ k = 6 := by omega
theorem word_idx {k : Int} (h : 1 ≤ k ∧ k ≤ 6) : idxOfS wordsB (wordB k) = k - 1 := by
  rcases kinds h with rfl | rfl | rfl | rfl | rfl | rfl <;> decide +kernel
theorem word_nodig {k : Int} (h : 1 ≤ k ∧ k ≤ 6) : ∀ b ∈ bl (wordB k), dig b = false ∧ b ≠ 32 := by
  rcases kinds h with rfl | rfl | rfl | rfl | rfl | rfl <;> decide +kernel
theorem word_of {x : ByteArray} {k : Int} (h : idxOfS wordsB x = k - 1) (hk : 1 ≤ k ∧ k ≤ 6) : x = wordB k := by
  have gen : ∀ (zs : List ByteArray) (i j : Nat), idxFromS zs x i = (i + j : Nat) → zs.getD j ByteArray.empty = x := by
    intro zs
    induction zs with
    | nil => intro i j h; simp only [idxFromS] at h; omega
    | cons z zs ih =>
      intro i j h
      simp only [idxFromS] at h
      split at h
      · have : j = 0 := by omega
        subst this
        simpa using ‹z = x›
      · cases j with
        | zero =>
          exfalso
          have hge : ∀ (zs : List ByteArray) (i : Nat), idxFromS zs x i = -1 ∨ (i : Int) ≤ idxFromS zs x i := by
            intro zs
            induction zs with
            | nil => intro i; exact .inl rfl
            | cons z zs ih => intro i; simp only [idxFromS]; split; exact .inr (Int.le_refl _); rcases ih (i + 1) with h | h; exact .inl h; exact .inr (by omega)
          have := hge zs (i + 1)
          omega
        | succ j =>
          have := ih (i + 1) j (by rw [h]; congr 1; omega)
          simpa using this
  have := gen wordsB 0 (k - 1).toNat (by show idxOfS wordsB x = _; rw [h]; omega)
  rw [← this]
  rfl
theorem idx_range (x : ByteArray) : -1 ≤ idxOfS wordsB x ∧ idxOfS wordsB x ≤ 5 := by
  unfold idxOfS wordsB
  simp only [idxFromS]
  repeat (split; exact ⟨by decide, by decide⟩)
  exact ⟨by decide, by decide⟩
def numB (k m c : Int) : List ByteArray := if k = 1 then [itoaB m, itoaB c] else [itoaB m]
theorem stepT_bl (k m c : Int) : bl (PB.stepT k m c) = bl (wordB k) ++ joinTail [32] ((numB k m c).map bl) := by
  unfold PB.stepT numB
  have hsp : bl spB = [32] := rfl
  split <;> simp [bl_append, hsp, joinTail]
theorem sp_itoa (n : Int) (h0 : 0 ≤ n) : (32 : UInt8) ∉ bl (itoaB n) := itoa_free n h0 32 (by unfold isDig; decide)
theorem stepT_size {k m c : Int} (h : StepOk k m c) : (PB.stepT k m c).size ≤ 17 := by
  obtain ⟨b1, b2, b3⟩ := stepok_bounds h
  have s1 := word_size k b1
  have s2 := itoaB_size m b2.1 b2.2
  have s3 := itoaB_size c b3.1 b3.2
  have s4 : spB.size = 1 := rfl
  unfold PB.stepT
  split <;> simp only [ByteArray.size_append] <;> omega
def stepR (t : ByteArray) : Int × Int × Int × Int :=
  let ws := splitT 32 t
  let l := numsL (ws.drop 1)
  let k := 1 + idxOfS wordsB (rdOf ByteArray.empty ws 0)
  let c := if k = 1 then rd l 1 else 0
  if numsOk (ws.drop 1) = true ∧ l.length = (if k = 1 then 2 else 1) ∧ StepOk k (rd l 0) c then (k, rd l 0, c, 0) else (0, 0, 0, 3)
theorem pj0 (k : Nat) (l : List Int) (ok : Bool) (n a b c : Int) : pack_ParseStep.j0 (k + 1) l ok n a b c = if ok = true then pack_ParseStep.j1 k l n ((l.length : Int) != n) a b c else pack_ParseStep.j1 k l n true a b c := by
  rw [pack_ParseStep.j0]
theorem pj1 (k : Nat) (l : List Int) (n : Int) (bad : Bool) (a b c : Int) : pack_ParseStep.j1 (k + 1) l n bad a b c = if bad = true then (some (0, 0, 0, 3)) else (if 0 < (l.length : Int) then (if n = 2 then (if 1 < (l.length : Int) then ((pack_CheckStep.f k a (rd l 0) (rd l 1)).bind fun t206 => (if t206 = 0 then (some (a, rd l 0, rd l 1, 0)) else (some (0, 0, 0, 3)))) else (none)) else ((pack_CheckStep.f k a (rd l 0) c).bind fun t207 => (if t207 = 0 then (some (a, rd l 0, c, 0)) else (some (0, 0, 0, 3))))) else (none)) := by
  rw [pack_ParseStep.j1]
theorem parse_eq (K : Nat) (t : ByteArray) (ht : t.size ≤ 1048576) (hK : 2000000 ≤ K) : pack_ParseStep.f K t = some (stepR t) := by
  obtain ⟨k, rfl⟩ : ∃ j, K = j + 1 + 1 + 1 := ⟨K - 3, by omega⟩
  obtain ⟨h1, h2⟩ := splitT_len 32 t
  have hpos := List.length_pos_iff.2 (splitT_ne 32 t)
  unfold pack_ParseStep.f stepR
  rw [splitT_eq 32 t (by omega)]
  generalize splitT 32 t = ws at *
  simp only [Option.bind_some]
  rw [if_pos (by omega), numbers_eq _ (ws.drop 1) (fun s hs => by have := h2 s (List.mem_of_mem_drop hs); omega) (by simp; omega) (by simp; omega)]
  simp only [Option.bind_some, pack_words.f]
  rw [if_pos (by omega)]
  have hw : ([(⟨#[115, 110, 111, 119]⟩ : ByteArray), (⟨#[114, 97, 105, 110]⟩ : ByteArray), (⟨#[109, 101, 108, 116]⟩ : ByteArray), (⟨#[102, 114, 111, 115, 116]⟩ : ByteArray), (⟨#[108, 111, 115, 115]⟩ : ByteArray), (⟨#[98, 108, 111, 119, 110]⟩ : ByteArray)] : List ByteArray) = wordsB := rfl
  rw [hw, slices_Index_string_string.f, if_pos (by decide)]
  simp only [Option.bind_some]
  have hr := idx_range (rdOf ByteArray.empty ws 0)
  rw [wr _ (by omega)]
  generalize 1 + idxOfS wordsB (rdOf ByteArray.empty ws 0) = kk
  generalize numsL (ws.drop 1) = l
  generalize numsOk (ws.drop 1) = ok
  have step : ∀ (a b c : Int), pack_CheckStep.f (k + 1) a b c = some (stepE a b c) := fun a b c => step_eq a b c
  by_cases hk : kk = 1
  · simp only [if_pos hk]
    rw [pj0, pj1, pj1]
    cases ok
    · rw [if_neg (by simp), if_pos rfl, if_neg (by simp)]
    · rw [if_pos rfl]
      by_cases hl : l.length = 2
      · have e : ((l.length : Int) != 2) = false := by simp; omega
        rw [e, if_neg (by simp), if_pos (by omega), if_pos rfl, if_pos (by omega), step]
        simp only [Option.bind_some, stepE]
        by_cases hs : StepOk kk (rd l 0) (rd l 1)
        · rw [if_pos hs, if_pos rfl, if_pos ⟨trivial, hl, hs⟩]
        · rw [if_neg hs, if_neg (by decide), if_neg (fun h => hs h.2.2)]
      · have e : ((l.length : Int) != 2) = true := by simp; omega
        rw [e, if_pos rfl, if_neg (fun h => hl h.2.1)]
  · simp only [if_neg hk]
    rw [pj0, pj1, pj1]
    cases ok
    · rw [if_neg (by simp), if_pos rfl, if_neg (by simp)]
    · rw [if_pos rfl]
      by_cases hl : l.length = 1
      · have e : ((l.length : Int) != 1) = false := by simp; omega
        rw [e, if_neg (by simp), if_pos (by omega), if_neg (by decide), step]
        simp only [Option.bind_some, stepE]
        by_cases hs : StepOk kk (rd l 0) 0
        · rw [if_pos hs, if_pos rfl, if_pos ⟨trivial, hl, hs⟩]
        · rw [if_neg hs, if_neg (by decide), if_neg (fun h => hs h.2.2)]
      · have e : ((l.length : Int) != 1) = true := by simp; omega
        rw [e, if_pos rfl, if_neg (fun h => hl h.2.1)]
theorem stepR_ok {t : ByteArray} {k m c : Int} (h : IsStep t k m c) : stepR t = (k, m, c, 0) := by
  obtain ⟨hs, rfl⟩ := h
  obtain ⟨b1, b2, b3⟩ := stepok_bounds hs
  have hsp : splitT 32 (PB.stepT k m c) = wordB k :: numB k m c := by
    refine splitT_join 32 _ _ _ (stepT_bl k m c) (fun hm => (word_nodig b1 _ hm).2 rfl) (fun y hy => ?_)
    unfold numB at hy
    split at hy
    · rcases List.mem_cons.1 hy with rfl | hy
      · exact sp_itoa m b2.1
      · rw [List.mem_singleton.1 hy]; exact sp_itoa c b3.1
    · rw [List.mem_singleton.1 hy]; exact sp_itoa m b2.1
  have n1 := number_itoa m b2.1 b2.2
  have n2 := number_itoa c b3.1 b3.2
  unfold stepR
  simp only [hsp]
  have e0 : rdOf ByteArray.empty (wordB k :: numB k m c) 0 = wordB k := rfl
  rw [e0, word_idx b1, show 1 + (k - 1) = k by omega, List.drop_succ_cons, List.drop_zero]
  unfold numB
  by_cases hk : k = 1
  · have e1 : numsL [itoaB m, itoaB c] = [m, c] := by simp [numsL, n1, n2]
    have e2 : numsOk [itoaB m, itoaB c] = true := by simp [numsOk, n1, n2]
    simp only [if_pos hk, e1, e2]
    have r0 : rd [m, c] 0 = m := rfl
    have r1 : rd [m, c] 1 = c := rfl
    rw [r0, r1, if_pos ⟨trivial, rfl, hs⟩]
  · have e1 : numsL [itoaB m] = [m] := by simp [numsL, n1]
    have e2 : numsOk [itoaB m] = true := by simp [numsOk, n1]
    have hc : c = 0 := by have := hs.2.2; rw [if_neg hk] at this; omega
    simp only [if_neg hk, e1, e2]
    have r0 : rd [m] 0 = m := rfl
    subst hc
    rw [r0, if_pos ⟨trivial, rfl, hs⟩]
theorem stepR_no {t : ByteArray} (h : ∀ k m c, ¬ IsStep t k m c) : stepR t = (0, 0, 0, 3) := by
  unfold stepR
  obtain ⟨x, r, hx⟩ := List.exists_cons_of_ne_nil (splitT_ne 32 t)
  have hj := join_splitT 32 t x r hx
  simp only [hx]
  rw [List.drop_succ_cons, List.drop_zero, show rdOf ByteArray.empty (x :: r) 0 = x from rfl]
  refine if_neg ?_
  · rintro ⟨h1, h2, h3⟩
    have b1 := (stepok_bounds h3).1
    have hw := word_of (x := x) (k := 1 + idxOfS wordsB x) (by omega) b1
    refine h _ _ _ ⟨h3, bl_inj ?_⟩
    rw [stepT_bl, hj, ← hw]
    congr 2
    congr 1
    unfold numB
    simp only [numsL, List.length_map] at h2
    by_cases hk : 1 + idxOfS wordsB x = 1
    · rw [if_pos hk] at h2 ⊢
      match r, h2 with
      | [a, b], _ =>
        simp only [numsOk, List.all_cons, List.all_nil, Bool.and_true, Bool.and_eq_true] at h1
        have r0 : rd (numsL [a, b]) 0 = (numberV a).1 := rfl
        have r1 : rd (numsL [a, b]) 1 = (numberV b).1 := rfl
        rw [if_pos hk, r0, r1, number_sound h1.1, number_sound h1.2]
    · rw [if_neg hk] at h2 ⊢
      match r, h2 with
      | [a], _ =>
        simp only [numsOk, List.all_cons, List.all_nil, Bool.and_true] at h1
        have r0 : rd (numsL [a]) 0 = (numberV a).1 := rfl
        rw [r0, number_sound h1]
def candC (l : List Int) (i : Int) : Int := if i = 1 ∧ 1 < l.length then rd l 1 else 0
theorem ref_j2 (K : Nat) (t : ByteArray) (l : List Int) (i m c : Int) (b : Bool) (C : Int) (hC : C = if b then rd l 1 else c) (hb : b = true → 1 < l.length) :
    snowlineref02_ParseStep.j2 (K + 1) t l i b i m c = if StepOk i m C ∧ PB.stepT i m C = t then some (i, m, C, 0) else snowlineref02_ParseStep.l0 K t l (wrap64 (i + 1)) := by
  unfold snowlineref02_ParseStep.j2
  cases b
  · rw [if_neg (by simp), snowlineref02_PrintStep.f]
    simp only [Option.bind_some]
    rw [if_neg (by simp)] at hC
    subst hC
    by_cases hs : StepOk i m C
    · simp only [if_pos hs, if_true]
      by_cases ht : PB.stepT i m C = t
      · rw [if_pos (toList_eq_iff.2 ht), if_pos ⟨hs, ht⟩]
      · rw [if_neg (fun h => ht (toList_eq_iff.1 h)), if_neg (fun h => ht h.2)]
    · simp only [if_neg hs]
      rw [if_neg (by decide), if_neg (fun h => hs h.1)]
  · have := hb rfl
    rw [if_pos rfl, if_pos (by omega), snowlineref02_PrintStep.f]
    simp only [Option.bind_some]
    rw [if_pos rfl] at hC
    subst hC
    by_cases hs : StepOk i m (rd l 1)
    · simp only [if_pos hs, if_true]
      by_cases ht : PB.stepT i m (rd l 1) = t
      · rw [if_pos (toList_eq_iff.2 ht), if_pos ⟨hs, ht⟩]
      · rw [if_neg (fun h => ht (toList_eq_iff.1 h)), if_neg (fun h => ht h.2)]
    · simp only [if_neg hs]
      rw [if_neg (by decide), if_neg (fun h => hs h.1)]
theorem ref_round (K : Nat) (t : ByteArray) (l : List Int) (i : Int) (hi : 1 ≤ i ∧ i ≤ 6) :
    snowlineref02_ParseStep.l0 (K + 3) t l i = if IsStep t i (rd l 0) (candC l i) then some (i, rd l 0, candC l i, 0) else snowlineref02_ParseStep.l0 K t l (i + 1) := by
  have e1 : wrap64 (i + 1) = i + 1 := wr _ (by omega)
  have key : ∀ m, m = rd l 0 → snowlineref02_ParseStep.j1 (K + 2) t l i i m 0 = if IsStep t i (rd l 0) (candC l i) then some (i, rd l 0, candC l i, 0) else snowlineref02_ParseStep.l0 K t l (i + 1) := by
    rintro m rfl
    unfold snowlineref02_ParseStep.j1
    by_cases hl : (l.length : Int) > 1
    · rw [if_pos hl]
      have := ref_j2 K t l i (rd l 0) 0 (i == 1) (candC l i) (by
        unfold candC
        by_cases h1 : i = 1
        · rw [if_pos ⟨h1, by omega⟩, if_pos (by simp [h1])]
        · rw [if_neg (fun h => h1 h.1), if_neg (by simp [h1])]) (by intro _; omega)
      rw [this, e1]
      rfl
    · rw [if_neg hl]
      have := ref_j2 K t l i (rd l 0) 0 false (candC l i) (by
        unfold candC
        rw [if_neg (by omega), if_neg (by simp)]) (by intro h; cases h)
      rw [this, e1]
      rfl
  show snowlineref02_ParseStep.l0 (K + 2 + 1) t l i = _
  rw [snowlineref02_ParseStep.l0, if_pos hi.2]
  by_cases hl : (l.length : Int) > 0
  · rw [if_pos hl, if_pos (by omega)]
    exact key _ rfl
  · rw [if_neg hl]
    refine key 0 ?_
    have : l = [] := List.length_eq_zero_iff.1 (by omega)
    subst this
    rfl
theorem ref_loop (t : ByteArray) (l : List Int) : ∀ (d K : Nat) (i : Int), 1 ≤ i → i + d = 7 → 3 * d < K →
    (∃ k m c, IsStep t k m c ∧ snowlineref02_ParseStep.l0 K t l i = some (k, m, c, 0)) ∨ ((∀ j, i ≤ j → j ≤ 6 → ¬ IsStep t j (rd l 0) (candC l j)) ∧ snowlineref02_ParseStep.l0 K t l i = some (0, 0, 0, 3)) := by
  intro d
  induction d with
  | zero =>
    intro K i h1 hd hK
    obtain ⟨K, rfl⟩ : ∃ j, K = j + 1 := ⟨K - 1, by omega⟩
    refine .inr ⟨fun j h2 h3 => by omega, ?_⟩
    unfold snowlineref02_ParseStep.l0
    rw [if_neg (by omega)]
  | succ d ih =>
    intro K i h1 hd hK
    obtain ⟨K, rfl⟩ : ∃ j, K = j + 3 := ⟨K - 3, by omega⟩
    rw [ref_round K t l i ⟨h1, by omega⟩]
    by_cases hs : IsStep t i (rd l 0) (candC l i)
    · exact .inl ⟨_, _, _, hs, if_pos hs⟩
    · rw [if_neg hs]
      rcases ih K (i + 1) (by omega) (by omega) (by omega) with h | ⟨h, h'⟩
      · exact .inl h
      · refine .inr ⟨fun j h2 h3 => ?_, h'⟩
        by_cases e : j = i
        · subst e; exact hs
        · exact h j (by omega) h3
theorem numG_step {k m c : Int} (hs : StepOk k m c) : numG (bl (PB.stepT k m c)) [] none = if k = 1 then [m, c] else [m] := by
  obtain ⟨b1, b2, b3⟩ := stepok_bounds hs
  have d32 : dig 32 = false := by decide
  rw [stepT_bl, numG_word _ _ _ (fun b hb => (word_nodig b1 b hb).1)]
  unfold numB
  by_cases hk : k = 1
  · simp only [if_pos hk, List.map_cons, List.map_nil, bl_itoa]
    have e : joinTail [32] [itoa m, itoa c] = 32 :: (itoa m ++ (32 :: (itoa c ++ []))) := by simp [joinTail]
    rw [e, numG_skip _ _ _ _ d32, show ([] : List Int) ++ (none : Option Int).toList = [] from rfl, numG_itoa m b2.1 b2.2, numG_skip _ _ _ _ d32, numG_itoa c b3.1 b3.2]
    rfl
  · simp only [if_neg hk, List.map_cons, List.map_nil, bl_itoa]
    have e : joinTail [32] [itoa m] = 32 :: (itoa m ++ []) := by simp [joinTail]
    rw [e, numG_skip _ _ _ _ d32, show ([] : List Int) ++ (none : Option Int).toList = [] from rfl, numG_itoa m b2.1 b2.2]
    rfl
theorem ref_parse (K : Nat) (t : ByteArray) (ht : t.size ≤ 1048576) (hK : 3000000 ≤ K) : snowlineref02_ParseStep.f K t = some (stepR t) := by
  unfold snowlineref02_ParseStep.f
  rw [numerals_eq K t (by omega) (by omega)]
  simp only [Option.bind_some]
  rcases ref_loop t (numG (bl t) [] none) 6 K 1 (by omega) (by omega) (by omega) with ⟨k, m, c, h, e⟩ | ⟨h, e⟩
  · rw [e, stepR_ok h]
  · rw [e, stepR_no]
    intro k m c hs
    have hn := numG_step hs.1
    rw [hs.2] at hn
    rw [hn] at h
    have b1 := (stepok_bounds hs.1).1
    refine h k b1.1 b1.2 ?_
    by_cases hk : k = 1
    · rw [if_pos hk]
      have r0 : rd [m, c] 0 = m := rfl
      have r1 : candC [m, c] k = c := by unfold candC; rw [if_pos ⟨hk, by simp⟩]; rfl
      rw [r0, r1]
      exact hs
    · rw [if_neg hk]
      have hc : c = 0 := by have := hs.1.2.2; rw [if_neg hk] at this; omega
      have r0 : rd [m] 0 = m := rfl
      have r1 : candC [m] k = 0 := by unfold candC; rw [if_neg (fun h => hk h.1)]
      rw [r0, r1, ← hc]
      exact hs
end Go.Proofs.YtpldcikmlpegpaaGreatDoor.Spl
end
section
namespace Go.Proofs.YtpldcikmlpegpaaGreatDoor.Spl
open Go Go.Lib Go.RowKit Go.Proofs.YtpldcikmlpegpaaGreatDoor.PB Go.Proofs.YtpldcikmlpegpaaGreatDoor.Plain Go.Proofs.YtpldcikmlpegpaaGreatDoorW.PrintWords Go.Proofs.YtpldcikmlpegpaaGreatDoorW.PrintLast Go.Proofs.YtpldcikmlpegpaaGreatDoorW.PrintMore
def slB : ByteArray := ⟨#[47]⟩
def packB : ByteArray := ⟨#[112, 97, 99, 107]⟩
def layT (l : Ly) : ByteArray := itoaB l.f0 ++ slB ++ itoaB l.f1 ++ slB ++ itoaB l.f2
def packL (ls : List Ly) : List UInt8 := bl packB ++ joinTail [32] (ls.map fun l => bl (layT l))
def packT (ls : List Ly) : ByteArray := ⟨(packL ls).toArray⟩
theorem packT_bl (ls : List Ly) : bl (packT ls) = packL ls := rfl
def printR (ls : List Ly) : ByteArray × Int := if Valid ls then (packT ls, 0) else (⟨#[]⟩, 20)
theorem right_bounds {l : Ly} (h : Right l) : (0 ≤ l.f0 ∧ l.f0 ≤ 65536) ∧ (0 ≤ l.f1 ∧ l.f1 ≤ 65536) ∧ 0 ≤ l.f2 ∧ l.f2 ≤ 65536 := by
  obtain ⟨a, b, c, d, e, f, g⟩ := h
  omega
theorem layT_size {l : Ly} (h : Right l) : (layT l).size ≤ 17 := by
  obtain ⟨b1, b2, b3⟩ := right_bounds h
  have s1 := itoaB_size _ b1.1 b1.2
  have s2 := itoaB_size _ b2.1 b2.2
  have s3 := itoaB_size _ b3.1 b3.2
  have s4 : slB.size = 1 := rfl
  unfold layT
  simp only [ByteArray.size_append]
  omega
theorem layT_bl (l : Ly) : bl (layT l) = itoa l.f0 ++ joinTail [47] [itoa l.f1, itoa l.f2] := by
  have hsl : bl slB = [47] := rfl
  unfold layT
  simp [bl_append, hsl, joinTail, bl_itoa]
theorem tail_len : ∀ (ls : List Ly), Rights ls → (joinTail [32] (ls.map fun l => bl (layT l))).length ≤ 18 * ls.length
  | [], _ => by simp [joinTail]
  | l :: ls, h => by
    have ih := tail_len ls h.tail
    have := layT_size h.head
    have e : joinTail [32] ((l :: ls).map fun l => bl (layT l)) = 32 :: (bl (layT l) ++ joinTail [32] (ls.map fun l => bl (layT l))) := by simp [joinTail]
    rw [e, List.length_cons, List.length_append, bl_size, List.length_cons]
    omega
theorem packL_len {ls : List Ly} (h : Rights ls) : (packL ls).length ≤ 18 * ls.length + 4 := by
  unfold packL
  rw [List.length_append, bl_size]
  have := tail_len ls h
  have : packB.size = 4 := rfl
  omega
theorem packT_size {ls : List Ly} (h : Valid ls) : (packT ls).size ≤ 2000 := by
  rw [← bl_size, packT_bl]
  have := packL_len h.2.1
  have := h.1
  omega
theorem join_lays (ls : List Ly) (hr : Rights ls) (hl : ls.length ≤ 64) : strings_Join.f (packB :: ls.map layT) ⟨#[32]⟩ = some (packT ls) := by
  have e : join ((packB :: ls.map layT).map (·.data.toList)) (⟨#[32]⟩ : ByteArray).data.toList = packL ls := by
    rw [List.map_cons, join_cons, List.map_map]
    rfl
  have hlen := packL_len hr
  unfold strings_Join.f joinB
  rw [e, if_pos ⟨by simp; omega, by omega⟩]
  rfl
theorem print_loop (ls : List Ly) (hr : Rights ls) (hl : ls.length ≤ 64) : ∀ (d k i : Nat), i + d = ls.length → d < k →
    pack_Print.l0 k (packB :: (ls.take i).map layT) ls (ls.length : Int) (i : Int) = some (packT ls, 0) := by
  intro d
  induction d with
  | zero =>
    intro k i hi hk
    obtain ⟨k, rfl⟩ : ∃ j, k = j + 1 := ⟨k - 1, by omega⟩
    rw [pack_Print.l0, if_neg (by omega), List.take_of_length_le (by omega), join_lays ls hr hl]
    rfl
  | succ d ih =>
    intro k i hi hk
    obtain ⟨k, rfl⟩ : ∃ j, k = j + 1 := ⟨k - 1, by omega⟩
    have hd := rd_drop (show i < ls.length by omega)
    have hm : Right (rd_T47 ls (i : Int)) := hr _ (by
      have : rd_T47 ls (i : Int) ∈ ls.drop i := by rw [hd]; exact List.mem_cons_self
      exact List.mem_of_mem_drop this)
    have ht : ls.take (i + 1) = ls.take i ++ [rd_T47 ls (i : Int)] := by
      have h1 : ls.drop i = ls[i] :: ls.drop (i + 1) := List.drop_eq_getElem_cons (by omega)
      rw [hd] at h1
      rw [List.take_succ_eq_append_getElem (by omega), (List.cons.inj h1).1]
    have := ih k (i + 1) (by omega) (by omega)
    rw [ht, List.map_append, List.map_cons, List.map_nil] at this
    rw [pack_Print.l0, if_pos (by omega), if_pos (by omega), if_pos (by omega)]
    generalize rd_T47 ls (i : Int) = l at hm this
    obtain ⟨b1, b2, b3⟩ := right_bounds hm
    have s1 := itoaB_size _ b1.1 b1.2
    have s2 := itoaB_size _ b2.1 b2.2
    have s3 := itoaB_size _ b3.1 b3.2
    have s4 : (⟨#[47]⟩ : ByteArray).size = 1 := rfl
    rw [itoa_eq _ b1.1 b1.2, itoa_eq _ b2.1 b2.2, itoa_eq _ b3.1 b3.2]
    simp only [Option.bind_some]
    rw [if_pos (by omega), if_pos (by simp only [ByteArray.size_append]; omega), if_pos (by simp only [ByteArray.size_append]; omega), if_pos (by simp only [ByteArray.size_append]; omega), if_pos (by simp; omega), wr ((i : Int) + 1) (by omega)]
    push_cast at this
    exact this
theorem print_eq (K : Nat) (ls : List Ly) (hK : 1000 ≤ K) : pack_Print.f K ls = some (printR ls) := by
  unfold pack_Print.f printR
  rw [check_eq (by omega)]
  simp only [Option.bind_some, checkE]
  by_cases hv : Valid ls
  · rw [if_pos hv, if_pos rfl, if_pos hv]
    have := hv.1
    exact print_loop ls hv.2.1 hv.1 ls.length K 0 (by omega) (by omega)
  · rw [if_neg hv, if_neg (by decide), if_neg hv]
theorem rprint_loop (ls : List Ly) (hr : Rights ls) (hl : ls.length ≤ 64) : ∀ (d k i : Nat) (s : ByteArray), i + d = ls.length → d + 6 < k → s.size ≤ 18 * i + 4 →
    snowlineref02_Print.l0 k s (i : Int) ls = some (⟨(bl s ++ joinTail [32] ((ls.drop i).map fun l => bl (layT l))).toArray⟩, 0) := by
  intro d
  induction d with
  | zero =>
    intro k i s hi hk _
    obtain ⟨k, rfl⟩ : ∃ j, k = j + 1 := ⟨k - 1, by omega⟩
    rw [snowlineref02_Print.l0, if_neg (by omega), List.drop_eq_nil_of_le (by omega)]
    congr 2
    apply bl_inj
    show bl s = bl s ++ []
    simp
  | succ d ih =>
    intro k i s hi hk hs
    obtain ⟨k, rfl⟩ : ∃ j, k = j + 1 := ⟨k - 1, by omega⟩
    have hd := rd_drop (show i < ls.length by omega)
    have hm : Right (rd_T47 ls (i : Int)) := hr _ (by
      have : rd_T47 ls (i : Int) ∈ ls.drop i := by rw [hd]; exact List.mem_cons_self
      exact List.mem_of_mem_drop this)
    rw [snowlineref02_Print.l0, if_pos (by omega), if_pos (by omega), hd]
    generalize rd_T47 ls (i : Int) = l at hm
    obtain ⟨b1, b2, b3⟩ := right_bounds hm
    have s1 := itoaB_size _ b1.1 b1.2
    have s2 := itoaB_size _ b2.1 b2.2
    have s3 := itoaB_size _ b3.1 b3.2
    have s4 : (⟨#[47]⟩ : ByteArray).size = 1 := rfl
    have s5 : (⟨#[32]⟩ : ByteArray).size = 1 := rfl
    rw [number_eq k _ b1.1 b1.2 (by omega), number_eq k _ b2.1 b2.2 (by omega), number_eq k _ b3.1 b3.2 (by omega)]
    simp only [Option.bind_some]
    rw [if_pos (by omega), if_pos (by simp only [ByteArray.size_append]; omega), if_pos (by simp only [ByteArray.size_append]; omega), if_pos (by simp only [ByteArray.size_append]; omega), if_pos (by simp only [ByteArray.size_append]; omega), if_pos (by simp only [ByteArray.size_append]; omega), wr ((i : Int) + 1) (by omega)]
    have := ih k (i + 1) (s ++ (⟨#[32]⟩ : ByteArray) ++ itoaB l.f0 ++ (⟨#[47]⟩ : ByteArray) ++ itoaB l.f1 ++ (⟨#[47]⟩ : ByteArray) ++ itoaB l.f2) (by omega) (by omega) (by simp only [ByteArray.size_append]; omega)
    push_cast at this
    rw [this]
    congr 3
    have h1 : bl (⟨#[47]⟩ : ByteArray) = [47] := rfl
    have h2 : bl (⟨#[32]⟩ : ByteArray) = [32] := rfl
    have h3 : bl slB = [47] := rfl
    simp [bl_append, h1, h2, h3, joinTail, layT]
theorem rprint_eq (K : Nat) (ls : List Ly) (hK : 1000 ≤ K) : snowlineref02_Print.f K ls = some (printR ls) := by
  unfold snowlineref02_Print.f printR
  rw [rcheck_eq (by omega)]
  simp only [Option.bind_some, checkE]
  by_cases hv : Valid ls
  · rw [if_pos hv, if_pos rfl, if_pos hv]
    have := hv.1
    exact rprint_loop ls hv.2.1 hv.1 ls.length K 0 packB (by omega) (by omega) (by show 4 ≤ _; omega)
  · rw [if_neg hv, if_neg (by decide), if_neg hv]
def IsPack (t : ByteArray) (ls : List Ly) : Prop := Valid ls ∧ packT ls = t
def layV (ns : List ByteArray) : Ly := ⟨rd (numsL ns) 0, rd (numsL ns) 1, rd (numsL ns) 2⟩
def goodW (x : ByteArray) : Bool := numsOk (splitT 47 x) && decide ((splitT 47 x).length = 3)
def packG : List ByteArray → Bool → List Ly → List Ly × Int
  | [], ok, acc => if ok = true ∧ Valid acc then (acc, 0) else ([], 3)
  | x :: xs, ok, acc => if ok = true ∧ goodW x = true ∧ acc.length ≤ 64 then packG xs ok (acc ++ [layV (splitT 47 x)]) else ([], 3)
def parseR (t : ByteArray) : List Ly × Int := packG ((splitT 32 t).drop 1) (decide (rdOf ByteArray.empty (splitT 32 t) 0 = packB)) []
theorem in_step (k : Nat) (x6 : Bool) (x9 : List Int) (x20 : List ByteArray) (x21 x22 : Int) (bs : List Bool) (j : Nat) (acc : List Ly) (hj : j < bs.length) (hb : bs.length ≤ 4) :
    pack_Parse.l1 (k + 1) x6 x9 x20 x21 x22 bs (bs.length : Int) (j : Int) acc = if rdOf false bs (j : Int) = true then some ([], 3) else pack_Parse.l1 k x6 x9 x20 x21 x22 bs (bs.length : Int) ((j + 1 : Nat) : Int) acc := by
  rw [pack_Parse.l1, if_pos (by omega), if_pos (by omega), if_pos (by omega), wr ((j : Int) + 1) (by omega)]
  push_cast
  rfl
theorem in_four (k : Nat) (x6 : Bool) (x9 : List Int) (x20 : List ByteArray) (x21 x22 : Int) (b0 b1 b2 b3 : Bool) (acc : List Ly) :
    pack_Parse.l1 (k + 4) x6 x9 x20 x21 x22 [b0, b1, b2, b3] (([b0, b1, b2, b3] : List Bool).length : Int) 0 acc = if b0 = true ∨ b1 = true ∨ b2 = true ∨ b3 = true then some ([], 3) else pack_Parse.l1 k x6 x9 x20 x21 x22 [b0, b1, b2, b3] 4 4 acc := by
  have h0 := in_step (k + 3) x6 x9 x20 x21 x22 [b0, b1, b2, b3] 0 acc (by simp) (by simp)
  have h1 := in_step (k + 2) x6 x9 x20 x21 x22 [b0, b1, b2, b3] 1 acc (by simp) (by simp)
  have h2 := in_step (k + 1) x6 x9 x20 x21 x22 [b0, b1, b2, b3] 2 acc (by simp) (by simp)
  have h3 := in_step k x6 x9 x20 x21 x22 [b0, b1, b2, b3] 3 acc (by simp) (by simp)
  have r0 : rdOf false [b0, b1, b2, b3] ((0 : Nat) : Int) = b0 := rfl
  have r1 : rdOf false [b0, b1, b2, b3] ((1 : Nat) : Int) = b1 := rfl
  have r2 : rdOf false [b0, b1, b2, b3] ((2 : Nat) : Int) = b2 := rfl
  have r3 : rdOf false [b0, b1, b2, b3] ((3 : Nat) : Int) = b3 := rfl
  rw [r0] at h0
  rw [r1] at h1
  rw [r2] at h2
  rw [r3] at h3
  refine h0.trans ?_
  cases b0
  · rw [if_neg (by simp)]
    refine h1.trans ?_
    cases b1
    · rw [if_neg (by simp)]
      refine h2.trans ?_
      cases b2
      · rw [if_neg (by simp)]
        refine h3.trans ?_
        cases b3
        · rw [if_neg (by simp), if_neg (by simp)]
          rfl
        · rw [if_pos rfl, if_pos (by simp)]
      · rw [if_pos rfl, if_pos (by simp)]
    · rw [if_pos rfl, if_pos (by simp)]
  · rw [if_pos rfl, if_pos (by simp)]
theorem parse_loop (ws : List ByteArray) (hs : ∀ s ∈ ws, s.size ≤ 1048576) (hl : ws.length ≤ 1048577) : ∀ (d k i : Nat) (ok : Bool) (acc : List Ly), i + d = ws.length → 2000000 + 6 * d < k → acc.length ≤ 65 →
    pack_Parse.l0 k ok ws (ws.length : Int) (i : Int) acc = some (packG (ws.drop i) ok acc) := by
  intro d
  induction d with
  | zero =>
    intro k i ok acc hi hk _
    obtain ⟨k, rfl⟩ : ∃ j, k = j + 1 := ⟨k - 1, by omega⟩
    rw [pack_Parse.l0, if_neg (by omega), List.drop_eq_nil_of_le (by omega), packG]
    cases ok
    · rw [if_neg (by simp), if_neg (by simp)]
    · rw [if_pos rfl, check_eq (by omega)]
      simp only [Option.bind_some, checkE]
      by_cases hv : Valid acc
      · rw [if_pos hv, if_pos rfl, if_pos ⟨trivial, hv⟩]
      · rw [if_neg hv, if_neg (by decide), if_neg (fun h => hv h.2)]
  | succ d ih =>
    intro k i ok acc hi hk ha
    obtain ⟨k, rfl⟩ : ∃ j, k = j + 1 + 4 + 1 := ⟨k - 6, by omega⟩
    have hd := rd_word (show i < ws.length by omega)
    have hm : rdOf ByteArray.empty ws (i : Int) ∈ ws := by
      have : rdOf ByteArray.empty ws (i : Int) ∈ ws.drop i := by rw [hd]; exact List.mem_cons_self
      exact List.mem_of_mem_drop this
    have hsz := hs _ hm
    rw [pack_Parse.l0, if_pos (by omega), if_pos (by omega), if_pos (by omega), hd]
    generalize rdOf ByteArray.empty ws (i : Int) = x at hsz
    obtain ⟨h1, h2⟩ := splitT_len 47 x
    have hsp : strings_Split.f x ⟨#[47]⟩ = some (splitT 47 x) := splitT_eq 47 x (by omega)
    rw [hsp]
    simp only [Option.bind_some]
    rw [numbers_eq _ (splitT 47 x) (fun s hs => by have := h2 s hs; omega) (by omega) (by omega)]
    simp only [Option.bind_some]
    rw [in_four, packG, goodW, layV]
    have hnl : (numsL (splitT 47 x)).length = (splitT 47 x).length := by simp [numsL]
    generalize numsL (splitT 47 x) = ns at hnl
    generalize numsOk (splitT 47 x) = is
    generalize splitT 47 x = sp at *
    by_cases hc : ok = true ∧ (is && decide (sp.length = 3)) = true ∧ acc.length ≤ 64
    · rw [if_pos hc]
      obtain ⟨rfl, hc2, hc3⟩ := hc
      simp only [Bool.and_eq_true, decide_eq_true_eq] at hc2
      obtain ⟨rfl, hc2⟩ := hc2
      rw [if_neg (by simp; omega), pack_Parse.l1, if_neg (by omega), if_pos (by omega), if_pos (by omega), if_pos (by omega), if_pos (by omega), wr ((i : Int) + 1) (by omega)]
      have := ih k (i + 1) true (acc ++ [⟨rd ns 0, rd ns 1, rd ns 2⟩]) (by omega) (by omega) (by simp; omega)
      push_cast at this
      exact this
    · rw [if_neg hc, if_pos]
      cases ok
      · exact .inl rfl
      · cases is
        · exact .inr (.inl rfl)
        · by_cases h3 : sp.length = 3
          · refine .inr (.inr (.inr ?_))
            rw [decide_eq_true]
            have : ¬ acc.length ≤ 64 := fun h => hc ⟨rfl, by simp [h3], h⟩
            omega
          · refine .inr (.inr (.inl ?_))
            simp
            omega
theorem pparse_eq (K : Nat) (t : ByteArray) (ht : t.size ≤ 1048576) (hK : 10000000 ≤ K) : pack_Parse.f K t = some (parseR t) := by
  obtain ⟨h1, h2⟩ := splitT_len 32 t
  have hpos := List.length_pos_iff.2 (splitT_ne 32 t)
  have hsp : strings_Split.f t ⟨#[32]⟩ = some (splitT 32 t) := splitT_eq 32 t (by omega)
  unfold pack_Parse.f parseR
  rw [hsp]
  simp only [Option.bind_some]
  generalize splitT 32 t = ws at *
  rw [if_pos (by omega), if_pos (by omega)]
  have := parse_loop (ws.drop 1) (fun s hs => by have := h2 s (List.mem_of_mem_drop hs); omega) (by simp; omega) (ws.drop 1).length K 0 (decide (rdOf ByteArray.empty ws 0 = packB)) [] (by omega) (by simp; omega) (by simp)
  rw [List.drop_zero] at this
  refine Eq.trans ?_ this
  congr 1
  have e : ([112, 97, 99, 107] : List UInt8) = packB.toList := by
    rw [Lib.toList_data]
    rfl
  rw [e, Bool.beq_eq_decide_eq]
  exact decide_eq_decide.2 toList_eq_iff
end Go.Proofs.YtpldcikmlpegpaaGreatDoor.Spl
end
section
namespace Go.Proofs.YtpldcikmlpegpaaGreatDoor.Spl
open Go Go.Lib Go.RowKit Go.Proofs.YtpldcikmlpegpaaGreatDoor.PB Go.Proofs.YtpldcikmlpegpaaGreatDoor.Plain Go.Proofs.YtpldcikmlpegpaaGreatDoorW.PrintWords Go.Proofs.YtpldcikmlpegpaaGreatDoorW.PrintLast Go.Proofs.YtpldcikmlpegpaaGreatDoorW.PrintMore
theorem packL_map (ls : List Ly) : packL ls = bl packB ++ joinTail [32] ((ls.map layT).map bl) := by
  unfold packL
  rw [List.map_map]
  rfl
theorem lay_free {l : Ly} (h : Right l) : (32 : UInt8) ∉ bl (layT l) := by
  obtain ⟨b1, b2, b3⟩ := right_bounds h
  have f0 := itoa_free l.f0 b1.1 32 (by unfold isDig; decide)
  have f1 := itoa_free l.f1 b2.1 32 (by unfold isDig; decide)
  have f2 := itoa_free l.f2 b3.1 32 (by unfold isDig; decide)
  rw [layT_bl]
  simp [joinTail, f0, f1, f2]
theorem split_lay {l : Ly} (h : Right l) : splitT 47 (layT l) = [itoaB l.f0, itoaB l.f1, itoaB l.f2] := by
  obtain ⟨b1, b2, b3⟩ := right_bounds h
  have f0 := itoa_free l.f0 b1.1 47 (by unfold isDig; decide)
  have f1 := itoa_free l.f1 b2.1 47 (by unfold isDig; decide)
  have f2 := itoa_free l.f2 b3.1 47 (by unfold isDig; decide)
  refine splitT_join 47 _ _ _ (layT_bl l) f0 (fun y hy => ?_)
  rcases List.mem_cons.1 hy with rfl | hy
  · exact f1
  · rw [List.mem_singleton.1 hy]; exact f2
theorem lay_good {l : Ly} (h : Right l) : goodW (layT l) = true ∧ layV (splitT 47 (layT l)) = l := by
  obtain ⟨b1, b2, b3⟩ := right_bounds h
  have n0 := number_itoa l.f0 b1.1 b1.2
  have n1 := number_itoa l.f1 b2.1 b2.2
  have n2 := number_itoa l.f2 b3.1 b3.2
  unfold goodW
  rw [split_lay h]
  constructor
  · simp [numsOk, n0, n1, n2]
  · unfold layV
    have e : numsL [itoaB l.f0, itoaB l.f1, itoaB l.f2] = [l.f0, l.f1, l.f2] := by simp [numsL, n0, n1, n2]
    rw [e]
    rfl
theorem good_lay {x : ByteArray} (h : goodW x = true) : x = layT (layV (splitT 47 x)) := by
  unfold goodW at h
  simp only [Bool.and_eq_true, decide_eq_true_eq] at h
  obtain ⟨h1, h2⟩ := h
  match hs : splitT 47 x, h2 with
  | [a, b, c], _ =>
    rw [hs] at h1
    simp only [numsOk, List.all_cons, List.all_nil, Bool.and_true, Bool.and_eq_true] at h1
    have hj := join_splitT 47 x a [b, c] hs
    apply bl_inj
    rw [layT_bl, hj]
    have e0 : (layV [a, b, c]).f0 = (numberV a).1 := rfl
    have e1 : (layV [a, b, c]).f1 = (numberV b).1 := rfl
    have e2 : (layV [a, b, c]).f2 = (numberV c).1 := rfl
    rw [e0, e1, e2, ← bl_itoa, ← bl_itoa, ← bl_itoa, number_sound h1.1, number_sound h1.2.1, number_sound h1.2.2]
    rfl
theorem packG_ok : ∀ (ls acc : List Ly), Valid (acc ++ ls) → packG (ls.map layT) true acc = (acc ++ ls, 0)
  | [], acc, h => by
    rw [List.append_nil] at h ⊢
    rw [List.map_nil, packG, if_pos ⟨rfl, h⟩]
  | l :: ls, acc, h => by
    have hr : Right l := h.2.1 l (by simp)
    obtain ⟨g1, g2⟩ := lay_good hr
    have hl := h.1
    rw [List.length_append, List.length_cons] at hl
    rw [List.map_cons, packG, if_pos ⟨rfl, g1, by omega⟩, g2]
    have := packG_ok ls (acc ++ [l]) (by rw [List.append_assoc]; exact h)
    rw [this, List.append_assoc]
    rfl
theorem packG_or : ∀ (xs : List ByteArray) (ok : Bool) (acc : List Ly), (∃ ls, ok = true ∧ xs = ls.map layT ∧ Valid (acc ++ ls)) ∨ packG xs ok acc = ([], 3)
  | [], ok, acc => by
    by_cases h : ok = true ∧ Valid acc
    · exact .inl ⟨[], h.1, rfl, by rw [List.append_nil]; exact h.2⟩
    · exact .inr (by rw [packG, if_neg h])
  | x :: xs, ok, acc => by
    by_cases h : ok = true ∧ goodW x = true ∧ acc.length ≤ 64
    · rcases packG_or xs ok (acc ++ [layV (splitT 47 x)]) with ⟨ls, h1, h2, h3⟩ | h'
      · refine .inl ⟨layV (splitT 47 x) :: ls, h1, ?_, ?_⟩
        · rw [List.map_cons, ← h2, ← good_lay h.2.1]
        · rw [List.append_assoc] at h3
          exact h3
      · exact .inr (by rw [packG, if_pos h, h'])
    · exact .inr (by rw [packG, if_neg h])
theorem parseR_ok {t : ByteArray} {ls : List Ly} (h : IsPack t ls) : parseR t = (ls, 0) := by
  obtain ⟨hv, rfl⟩ := h
  have hs : splitT 32 (packT ls) = packB :: ls.map layT := by
    refine splitT_join 32 _ _ _ (by rw [packT_bl, packL_map]) (by decide +kernel) (fun y hy => ?_)
    obtain ⟨l, hl, rfl⟩ := List.mem_map.1 hy
    exact lay_free (hv.2.1 l hl)
  unfold parseR
  rw [hs, List.drop_succ_cons, List.drop_zero, show rdOf ByteArray.empty (packB :: ls.map layT) 0 = packB from rfl, decide_eq_true rfl]
  exact packG_ok ls [] hv
theorem parseR_no {t : ByteArray} (h : ∀ ls, ¬ IsPack t ls) : parseR t = ([], 3) := by
  obtain ⟨x, r, hx⟩ := List.exists_cons_of_ne_nil (splitT_ne 32 t)
  have hj := join_splitT 32 t x r hx
  unfold parseR
  rw [hx, List.drop_succ_cons, List.drop_zero, show rdOf ByteArray.empty (x :: r) 0 = x from rfl]
  rcases packG_or r (decide (x = packB)) [] with ⟨ls, h1, h2, h3⟩ | h'
  · exfalso
    refine h ls ⟨h3, bl_inj ?_⟩
    rw [packT_bl, packL_map, hj, of_decide_eq_true h1, h2]
  · exact h'
instance (t : ByteArray) (ls : List Ly) : Decidable (IsPack t ls) := inferInstanceAs (Decidable (_ ∧ _))
def grp : List Int → List Ly
  | a :: b :: c :: r => ⟨a, b, c⟩ :: grp r
  | _ => []
theorem grp_short {l : List Int} (h : l.length < 3) : grp l = [] := by
  match l, h with
  | [], _ => rfl
  | [_], _ => rfl
  | [_, _], _ => rfl
theorem rd_int {l : List Int} {i : Nat} (h : i < l.length) : l.drop i = rd l (i : Int) :: l.drop (i + 1) := by
  rw [List.drop_eq_getElem_cons h]
  congr 1
  simp [rd, List.getD_eq_getElem?_getD, h]
theorem rparse_loop (t : ByteArray) (l : List Int) (hl : l.length ≤ 1073741824) : ∀ (d k i : Nat) (acc : List Ly), l.length ≤ i + d → i ≤ l.length → 1000 + d < k → acc.length ≤ i →
    snowlineref02_Parse.l0 k t l (i : Int) acc = some (if IsPack t (acc ++ grp (l.drop i)) then (acc ++ grp (l.drop i), 0) else ([], 3)) := by
  have done : ∀ (k : Nat) (p : List Ly), 1000 ≤ k → ((snowlineref02_Print.f k p).bind fun bt250 => (if bt250.2 = 0 then (if bt250.1.toList = t.toList then (some (p, (0 : Int))) else (some (([] : List Ly), 3))) else (some (([] : List Ly), 3)))) = some (if IsPack t p then (p, 0) else ([], 3)) := by
    intro k p hk
    rw [rprint_eq k p hk]
    simp only [Option.bind_some, printR]
    by_cases hv : Valid p
    · simp only [if_pos hv, if_true]
      by_cases ht : packT p = t
      · rw [if_pos (toList_eq_iff.2 ht), if_pos ⟨hv, ht⟩]
      · rw [if_neg (fun h => ht (toList_eq_iff.1 h)), if_neg (fun h => ht h.2)]
    · simp only [if_neg hv]
      rw [if_neg (by decide), if_neg (fun h => hv h.1)]
  intro d
  induction d with
  | zero =>
    intro k i acc hi hil hk ha
    obtain ⟨k, rfl⟩ : ∃ j, k = j + 1 := ⟨k - 1, by omega⟩
    rw [snowlineref02_Parse.l0, wr ((i : Int) + 2) (by omega), if_neg (by omega), List.drop_eq_nil_of_le (by omega), show grp [] = [] from rfl, List.append_nil]
    exact done k acc (by omega)
  | succ d ih =>
    intro k i acc hi hil hk ha
    obtain ⟨k, rfl⟩ : ∃ j, k = j + 1 := ⟨k - 1, by omega⟩
    rw [snowlineref02_Parse.l0, wr ((i : Int) + 2) (by omega), wr ((i : Int) + 1) (by omega), wr ((i : Int) + 3) (by omega)]
    by_cases h3 : i + 2 < l.length
    · rw [if_pos (by omega), if_pos (by omega), if_pos (by omega), if_pos (by omega), if_pos (by omega), if_pos (by omega), if_pos (by omega)]
      have e0 := rd_int (l := l) (i := i) (by omega)
      have e1 := rd_int (l := l) (i := i + 1) (by omega)
      have e2 := rd_int (l := l) (i := i + 1 + 1) (by omega)
      push_cast at e1 e2
      rw [show (i : Int) + 1 + 1 = (i : Int) + 2 by omega] at e2
      rw [e0, e1, e2, grp]
      have := ih k (i + 3) (acc ++ [⟨rd l (i : Int), rd l ((i : Int) + 1), rd l ((i : Int) + 2)⟩]) (by omega) (by omega) (by omega) (by simp; omega)
      rw [show ((i + 3 : Nat) : Int) = (i : Int) + 3 by omega] at this
      rw [this, List.append_assoc]
      rfl
    · rw [if_neg (by omega), grp_short (by simp; omega), List.append_nil]
      exact done k acc (by omega)
theorem numG_len : ∀ (l : List UInt8) (acc : List Int) (cur : Option Int), (numG l acc cur).length ≤ acc.length + l.length + 1
  | [], acc, cur => by
    rw [numG]
    cases cur <;> simp
  | b :: l, acc, cur => by
    rw [numG]
    split
    · have := numG_len l acc (some (mn (cur.getD 0 * 10 + ((b.toNat : Int) - 48)) 1073741824))
      rw [List.length_cons]
      omega
    · have := numG_len l (acc ++ cur.toList) none
      rw [List.length_append] at this
      rw [List.length_cons]
      have hc : cur.toList.length ≤ 1 := by cases cur <;> simp
      omega
theorem numG_tail : ∀ (ls : List Ly) (acc : List Int) (cur : Option Int), Rights ls → numG (joinTail [32] (ls.map fun l => bl (layT l))) acc cur = acc ++ cur.toList ++ ls.flatMap fun l => [l.f0, l.f1, l.f2]
  | [], acc, cur, _ => by simp [joinTail, numG]
  | l :: ls, acc, cur, h => by
    have d32 : dig 32 = false := by decide
    have d47 : dig 47 = false := by decide
    obtain ⟨b1, b2, b3⟩ := right_bounds h.head
    have e : joinTail [32] ((l :: ls).map fun l => bl (layT l)) = 32 :: (itoa l.f0 ++ (47 :: (itoa l.f1 ++ (47 :: (itoa l.f2 ++ joinTail [32] (ls.map fun l => bl (layT l))))))) := by
      simp [joinTail, layT_bl]
    rw [e, numG_skip _ _ _ _ d32, numG_itoa _ b1.1 b1.2, numG_skip _ _ _ _ d47, numG_itoa _ b2.1 b2.2, numG_skip _ _ _ _ d47, numG_itoa _ b3.1 b3.2, numG_tail ls _ _ h.tail]
    simp
theorem grp_flat : ∀ ls : List Ly, grp (ls.flatMap fun l => [l.f0, l.f1, l.f2]) = ls
  | [] => rfl
  | l :: ls => by
    have e : (l :: ls).flatMap (fun l => [l.f0, l.f1, l.f2]) = l.f0 :: l.f1 :: l.f2 :: ls.flatMap fun l => [l.f0, l.f1, l.f2] := rfl
    rw [e, grp, grp_flat ls]
theorem grp_text {ls : List Ly} (h : Rights ls) : grp (numG (bl (packT ls)) [] none) = ls := by
  have hp : ∀ b ∈ bl packB, dig b = false := by decide +kernel
  rw [packT_bl, packL, numG_word _ _ _ hp, numG_tail ls [] none h]
  simp only [Option.toList_none, List.append_nil, List.nil_append]
  exact grp_flat ls
theorem rparse_eq (K : Nat) (t : ByteArray) (_ht : t.size ≤ 1048576) (hK : 10000000 ≤ K) : snowlineref02_Parse.f K t = some (parseR t) := by
  unfold snowlineref02_Parse.f
  by_cases h : (t.size : Int) > 2000
  · rw [if_pos h, parseR_no]
    rintro ls ⟨hv, rfl⟩
    have := packT_size hv
    omega
  · rw [if_neg h, numerals_eq K t (by omega) (by omega)]
    simp only [Option.bind_some]
    have hn := numG_len (bl t) [] none
    rw [bl_size] at hn
    have := rparse_loop t (numG (bl t) [] none) (by simp at hn; omega) (numG (bl t) [] none).length K 0 [] (by omega) (by omega) (by simp at hn; omega) (by simp)
    rw [List.drop_zero, List.nil_append] at this
    refine this.trans ?_
    congr 1
    by_cases hp : IsPack t (grp (numG (bl t) [] none))
    · rw [if_pos hp, parseR_ok hp]
    · rw [if_neg hp, parseR_no]
      rintro ls ⟨hv, rfl⟩
      rw [grp_text hv.2.1] at hp
      exact hp ⟨hv, rfl⟩
end Go.Proofs.YtpldcikmlpegpaaGreatDoor.Spl
end
section
namespace Go.Proofs.YtpldcikmlpegpaaGreatDoor.PurePackTexts
open Go.RowKit Go.Proofs.YtpldcikmlpegpaaGreatDoor.PB Go.Proofs.YtpldcikmlpegpaaGreatDoor.Plain Go.Proofs.YtpldcikmlpegpaaGreatDoor.Spl Go.Proofs.YtpldcikmlpegpaaGreatDoorW.PrintWords Go.Proofs.YtpldcikmlpegpaaGreatDoorW.PrintLast Go.Proofs.YtpldcikmlpegpaaGreatDoorW.PrintMore
theorem few_one (k : Nat) (l : List Ly) : snowlinelaw02_few.f (k + 2) [(⟨l⟩ : S26)] = some (decide (l.length ≤ 70)) := by
  unfold snowlinelaw02_few.f
  rw [snowlinelaw02_few.l0, if_pos (by simp), if_pos (by omega)]
  by_cases h : l.length ≤ 70
  · rw [if_neg (show ¬ ((rd_T26 [(⟨l⟩ : S26)] 0).f0.length : Int) > 70 by show ¬ (l.length : Int) > 70; omega)]
    rw [snowlinelaw02_few.l0, if_neg (by show ¬ (wrap64 (0 + 1)) < _; rw [wr _ (by omega)]; simp)]
    exact some_true h
  · rw [if_pos (show ((rd_T26 [(⟨l⟩ : S26)] 0).f0.length : Int) > 70 by show (l.length : Int) > 70; omega)]
    exact some_false h
theorem parseR_len (t : ByteArray) : (parseR t).1.length ≤ 64 := by
  by_cases h : ∃ ls, IsPack t ls
  · obtain ⟨ls, h⟩ := h
    rw [parseR_ok h]
    exact h.1.1
  · rw [parseR_no (fun ls hl => h ⟨ls, hl⟩)]
    exact Nat.zero_le _
theorem walked (s0 s1 s2 : Int) (A0 : Option Addr) (c0 : Nat) (l0 : List Ly) (t : ByteArray) (w : World) (hr0 : Kd.C k47 w A0 l0.length l0) (hc0 : l0.length ≤ c0) (ht : t.size ≤ 1048576) (hG : Glob w) :
    Calls Tryz.prog 3 #[.agg #[.int .i64 s0, .int .i64 s1, .int .i64 s2], .agg #[.slice A0 l0.length c0], .string t] w fun e w' => e = .returned (.bool true) ∧ Below w.heap.size w w' := by
  obtain ⟨K, hK⟩ : ∃ K, 10000000 ≤ K := ⟨_, Nat.le_refl _⟩
  have hm := parseR_len t
  refine packTexts_walk s0 s1 s2 A0 c0 l0 t _ 2 K (few_one 0 l0) (if StepOk s0 s1 s2 then (PB.stepT s0 s1 s2, (0 : Int)) else (⟨#[]⟩, 21)).1 (if StepOk s0 s1 s2 then (PB.stepT s0 s1 s2, (0 : Int)) else (⟨#[]⟩, 21)).2
    (stepR t).1 (stepR t).2.1 (stepR t).2.2.1 (stepR t).2.2.2 (printR l0).1 (printR l0).2 (parseR t).1 (parseR t).2 (fun _ => ⟨rfl, rfl, parse_eq K t ht (by omega), ref_parse K t ht (by omega), print_eq K l0 (by omega), rprint_eq K l0 (by omega), pparse_eq K t ht hK, rparse_eq K t ht hK, ?_, fun hb => ?_, fun hj => ?_⟩) w hr0 hc0 hG
  · rw [same_eq (by omega) (by omega), decide_eq_true rfl]
  · by_cases hs : StepOk s0 s1 s2
    · rw [if_pos hs]
      have hsz := Spl.stepT_size hs
      rw [parse_eq K _ (by show (PB.stepT s0 s1 s2).size ≤ _; omega) (by omega), stepR_ok ⟨hs, rfl⟩]
    · rw [if_neg hs] at hb
      exact absurd hb (by decide)
  · by_cases hv : Valid l0
    · have hsz := packT_size hv
      have h64 := hv.1
      unfold printR
      rw [if_pos hv]
      refine ⟨?_, by rw [same_eq (by omega) (by omega), decide_eq_true rfl]⟩
      rw [pparse_eq K _ (by show (packT l0).size ≤ _; omega) hK, parseR_ok ⟨hv, rfl⟩]
    · unfold printR at hj
      rw [if_neg hv] at hj
      exact absurd hj (by decide)
end Go.Proofs.YtpldcikmlpegpaaGreatDoor.PurePackTexts
end
section
namespace Go.Proofs.YtpldcikmlpegpaaGreatDoor.packTextsUpto
open Go.ChangeShapes Go.WideShapes Go.ChangeAt Go.RowKit Go.Proofs.YtpldcikmlpegpaaGreatDoor.Open Go.Proofs.YtpldcikmlpegpaaGreatDoor.PB
open Go.ChangeMaps (open_string)
set_option linter.unusedVariables false
theorem small_string {H : Type} {d0 d1 : DataW H} {l : List UInt8} {gs : List (DataW H)} (h : Rows.uptoSmall H ([d0, d1, .lit (.string l)] ++ gs) = true) : l.length ≤ 1048576 := by
  have h1 := of_decide_eq_true h
  simp only [List.cons_append, List.nil_append, Rows.uptoBulkAll, Rows.uptoBulk] at h1
  omega
set_option maxRecDepth 100000 in
theorem contract (H : Type) (enc : TypeId × Value → H) (W : World) (base : Nat) (args : Array Value) (ds gs : List (DataW H)) (before : List MemPlace)
    (hval0 : ∀ (j : Nat) t v, Tryz.f3.params[j]? = some t → args[j]? = some v → Value.okWide Tryz.prog W .any base t v)
    (hW : DataW.Whole enc Tryz.prog Tryz.f3.params.toList Rows.packTextsSpec.vars false W args.toList ds gs before) (hcond : Rows.uptoSmall H (ds ++ gs) = true) (hL : laidMetH Tryz.prog Rows.packTextsUptoRow.laid W) (hsh : W.ShapedOpen Tryz.prog) :
    Calls Tryz.prog 3 args W fun e W' => ∃ v, e = .returned v ∧ Rows.packTextsSpec.post enc Tryz.prog Tryz.f3 false true false false W args v W' := by
  have hval : ∀ (j : Nat) t v, Tryz.f3.params[j]? = some t → args[j]? = some v → Value.okWide Tryz.prog W .any base t v := hval0
  have hW' := hW
  obtain ⟨p, q, hA0, hV, rfl, hfz, hnd⟩ := hW
  have hA : DataW.TrodAll enc Tryz.prog W 0 (fun _ => true) true Tryz.f3.params.toList args.toList ds p := hA0
  rw [Tryz.params3] at hA hval
  obtain ⟨v0, vs0, d0, ds0, p0, q0, hargs, rfl, rfl, h0, r0⟩ := trodAll_cons hA
  obtain ⟨v1, vs1, d1, ds1, p1, q1, rfl, rfl, rfl, h1, r1⟩ := trodAll_cons r0
  obtain ⟨v2, vs2, d2, ds2, p2, q2, rfl, rfl, rfl, h2, r2⟩ := trodAll_cons r1
  obtain ⟨rfl, rfl, rfl⟩ := trodAll_nil r2
  obtain rfl : args = #[v0, v1, v2] := by cases args; simp_all
  obtain ⟨rfl, rfl⟩ := trodVars_none hV
  have k0 := h0
  have lt0 : ∀ x ∈ p0, x.block < W.heap.size := by obtain ⟨m, hm⟩ := k0; exact DataW.trod_lt m _ _ _ hm
  obtain ⟨s0, s1, s2, rfl, _, _, _⟩ := open_ints3 Tryz.underlying23 rfl rfl rfl (by kernel_rfl) (by kernel_rfl) (hval 0 23 v0 rfl rfl) h0
  have k1 := h1
  have lt1 : ∀ x ∈ p1, x.block < W.heap.size := by obtain ⟨m, hm⟩ := k1; exact DataW.trod_lt m _ _ _ hm
  obtain ⟨A0, c0, l0, rfl, hl0, hC0, _⟩ := open_pack (hval 1 26 v1 rfl rfl) h1
  have k2 := h2
  have lt2 : ∀ x ∈ p2, x.block < W.heap.size := by obtain ⟨m, hm⟩ := k2; exact DataW.trod_lt m _ _ _ hm
  obtain ⟨t, rfl, rfl, rfl, _⟩ := open_string Tryz.underlying9 (hval 2 9 v2 rfl rfl) h2
  have ht : t.size ≤ 1048576 := small_string hcond
  clear hA0 hval0
  refine (PurePackTexts.walked s0 s1 s2 A0 c0 l0 t W hC0 hl0 ht (glob_of hL hsh)).mono ?_
  rintro e W' ⟨rfl, bel⟩
  exact ⟨_, rfl, _, _, _, [], _, [], hW', trodAll_mk1 (shut_bool Tryz.underlying4 _), (trodAll_cons_mk (Below.trod laidOut (by kernel_rfl) (of_decide_eq_true (by kernel_rfl)) k0 bel lt0) (trodAll_cons_mk (Below.trod laidOut (by kernel_rfl) (of_decide_eq_true (by kernel_rfl)) k1 bel lt1) (trodAll_cons_mk (Below.trod laidOut (by kernel_rfl) (of_decide_eq_true (by kernel_rfl)) k2 bel lt2) trodAll_mk0))), rfl, bel.frame _, fun h => by cases h⟩
def wit : Array Value := #[.agg #[.int .i64 0, .int .i64 0, .int .i64 0], .agg #[.slice none 0 0], .string ⟨#[]⟩]
theorem reads (os : Os) {H : Type} (enc : TypeId × Value → H) : ∃ places, DataW.whole enc Tryz.prog ((World.laidAll Tryz.prog os Rows.packTextsUptoRow.laid).forCall (fun _ _ => 0) ⟨#[], wit, []⟩).memory Tryz.f3.params.toList Rows.packTextsSpec.vars false wit.toList 8 =
    some ([.agg [.lit (.int .i64 0), .lit (.int .i64 0), .lit (.int .i64 0)], .agg [.nil], .lit (.string [])], [], places) :=
  ⟨[], by kernel_rfl⟩
theorem laid_met (os : Os) : laidMetH Tryz.prog Rows.packTextsUptoRow.laid ((World.laidAll Tryz.prog os Rows.packTextsUptoRow.laid).forCall (fun _ _ => 0) ⟨#[], wit, []⟩).memory := by
  rw [MakeChecks.laidMetH_plain _ _ _ (by kernel_rfl)]
  exact laidMet_laidAll _ (by kernel_rfl) (by kernel_rfl)
theorem wit_ok (os : Os) : Input.okWideB Tryz.checked.prog ((World.laidAll Tryz.prog os Rows.packTextsUptoRow.laid).forCall (fun _ _ => 0) ⟨#[], wit, []⟩) 3 ⟨#[], wit, []⟩ = true := by kernel_rfl
theorem wit_shaped (os : Os) : ((World.laidAll Tryz.prog os Rows.packTextsUptoRow.laid).forCall (fun _ _ => 0) ⟨#[], wit, []⟩).Shaped Tryz.prog := World.shaped_of_ZipB (by kernel_rfl) (by kernel_rfl)
set_option maxRecDepth 100000 in
theorem lifted (os : Os) (started : os.Started) (H : Type) (enc : TypeId × Value → H) (F : Stop.Interp) :
    ReturnsInHanded {} Tryz.checked os 3 .any ((Rows.OpenSpec.upto Rows.packTextsSpec).preRow enc Tryz.prog Tryz.f3 Rows.packTextsUptoRow.domain false Rows.packTextsUptoRow.laid) (((Rows.OpenSpec.upto Rows.packTextsSpec).at F).post enc Tryz.prog Tryz.f3 false true false false) := by
  obtain ⟨places, hx⟩ := reads os enc
  refine returnsInHanded_of_row (C := Tryz.checked) (s := Rows.OpenSpec.upto Rows.packTextsSpec) own started (by kernel_rfl) Tryz.func3
    ⟨World.laidAll Tryz.prog os Rows.packTextsUptoRow.laid, fun _ _ => 0, ⟨#[], wit, []⟩, World.laidAll_os _ _ _, wit_shaped os, (Input.okWide_of_okWideB (base := 0) (wit_ok os)).1, (Input.okWide_of_okWideB (wit_ok os)).2,
      OpenSpec.preRow_of_cond 8 hx (by kernel_rfl) (fun k hk => by cases hk; kernel_rfl) (by kernel_rfl) (laid_met os), by
        simp only [Assume.holds]
        exact ⟨by simp, by simp, (fun _ => Modest.zero), by simp, by simp⟩⟩ ?_
  intro W base args ds gs before hval hW _ hcond _ hL hsh _
  exact contract H enc W base args ds gs before hval hW (hcond _ rfl) hL hsh
theorem over : Rows.PackTextsUptoSaid :=
  OpenClaim.holds_of_cond 3 Tryz.f3 rfl rfl rfl rfl rfl rfl rfl ⟨rfl, rfl, rfl, rfl, rfl⟩ rfl rfl rfl rfl rfl (by kernel_rfl) Tryz.func3 (by kernel_rfl)
    (of_decide_eq_true (by kernel_rfl)) (by unfold Func.isWrapper; first | (rw [if_pos (by decide +kernel)]; kernel_rfl) | (rw [if_neg (by decide +kernel)]; exact ⟨rfl, rfl⟩))
    (fun os started H enc _ F => by rw [OpenClaim.pre_eq_preRow]; exact lifted os started H enc F)
theorem card_holds : Rows.PackTextsUptoCardSaid :=
  Claim7.holds_tied_plain_at .later [] _ _ _ _ over (fun _ h => by cases h) (by kernel_rfl) (fun _ h => by cases h) packTextsUpto_row_tie rfl ⟨rfl, rfl⟩ (by kernel_rfl) rfl
    (fun f fn hf hfn => by
      obtain rfl : f = 3 := Option.some.inj ((show Tryz.prog.funcNamed "snowline/snowlinelaw02.PackTexts" = some 3 by kernel_rfl).symm.trans hf) |>.symm
      obtain rfl : fn = Tryz.f3 := (Option.some.inj (Tryz.func3.symm.trans hfn)).symm
      exact ⟨by kernel_rfl, fun j t ht => by
        rw [Tryz.params3] at ht
        have hm : t ∈ [23, 26, 9] := by simpa using Array.mem_of_getElem? ht
        have hall : ([23, 26, 9].all fun u => !Tryz.prog.wantsStandIn u) = true := by kernel_rfl
        exact (show Tryz.prog.wantsStandIn t = false by simpa using List.all_eq_true.1 hall t hm)⟩)
    (by kernel_rfl)
end Go.Proofs.YtpldcikmlpegpaaGreatDoor.packTextsUpto
end
