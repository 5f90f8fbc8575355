/-
A part of the proof of this: The tied card of the law PackOrders of snowlinelaw02 holds: it answers true for all two packs and all two numbers, and changes nothing.
-/
import Derived.Test.YtpldcikmlpegpaaDoorProg
import Derived.Below
import Derived.Deep.Draws
import Derived.Deep.AppendLies
import Derived.Maps.AppendAt
import Derived.OwnWalk
import Derived.Laws.BytesArg
import Derived.Laws.MakeOwn
import Derived.Laws.OwnMore
import Derived.Deep.OwnRows
import Derived.Tactics
import Derived.Lib.ConvBytes
import Derived.Laws.Slices
import Derived.WalkKit
import Derived.KernelRfl
import Derived.RowKit3
import Derived.Deep.LoopGhost
import Derived.Deep.QuietTactic
import Derived.BigQuiet
import Derived.WideLaws
import Derived.Deep.DeepCutAuto
import Derived.Deep.CutBlock
import Derived.Deep.RegionHeld3
import Derived.Laws.Rows
import Derived.Lib.AppendStr
import Derived.ArgAppend
import Derived.Laws.IdiomCopy
import Derived.OrdersHeld
import Derived.Laws.BitsLemmas
import Derived.RowKit
import Derived.Shelf.Strings.Builder1
import Derived.Shelf.Strings.Builder2
import Derived.Shelf.Strings.OnBuilder
import Derived.Shelf.Strconv.Itoa0
import Derived.Shelf.Strconv.Itoa1
import Derived.Shelf.LaysM
import Derived.Shelf.Strconv.Itoa2
import Derived.Shelf.Strconv.Itoa3
import Derived.Lib.SmallJoins
import Derived.Lib.AppendIntMem
import Derived.Test.YtpldcikmlpegpaaDoorRows
import Derived.Deep.Slices
import Derived.Deep.Fields
import Derived.ChangeSame
import Derived.ProofKit
import Derived.OpenShut
import Derived.ChangeOld
import Derived.SizedLaws
import Derived.LaidMore
import Derived.Stop.Joined
import Derived.Outline
import Derived.RegionTactic
import Derived.BigRegion
import Derived.Deep.RegionWith
import Derived.Laws.CopyOwn
import Derived.Deep.RegionLaw
import Derived.Test.YtpldcikmlpegpaaDoorPackOrdersA1
section
namespace Go.Proofs.YtpldcikmlpegpaaDoor.PB
open Go.RowKit Go.Proofs.YtpldcikmlpegpaaDoorW.PrintWords Go.Proofs.YtpldcikmlpegpaaDoorW.PrintLast Go.Proofs.YtpldcikmlpegpaaDoorW.PrintMore
attribute [local go_sem] max2_int min2_int max_two min_two max_three min_three max_four min_four   -- for this text's walks alone
set_option linter.unusedVariables false
set_option linter.unusedSimpArgs false
def errW : Option Int → Value
  | none => .nilIface
  | some c => .iface 0 (.int .i64 c)
theorem errW_none : errW none = .nilIface := rfl
theorem errW_some (c : Int) : errW (some c) = .iface 0 (.int .i64 c) := rfl
theorem info9 : (Tryd.prog.info? 9).map (fun i => (i.zero, i.size, i.bytes)) = some (some (.string ⟨#[]⟩), 1, 16) := by kernel_rfl
theorem info48 : (Tryd.prog.info? 48).map (fun i => (i.zero, i.size, i.bytes)) = some (some (.agg #[(.int .i64 0), (.int .i64 0), (.int .i64 0)]), 3, 24) := by kernel_rfl
structure S48 where
  f0 : Int
  f1 : Int
  f2 : Int
def z48 : S48 := ⟨(0 : Int), (0 : Int), (0 : Int)⟩
def k48 : Kd S48 := Kd.iso (Kd.pair (Kd.int .i64) (Kd.pair (Kd.int .i64) (Kd.int .i64))) (fun x : S48 => (x.f0, x.f1, x.f2))
theorem k48_open {w : World} {x : S48} {cs : List Value} (h : k48.K w x cs) : cs = [.int .i64 x.f0, .int .i64 x.f1, .int .i64 x.f2] := by
  obtain ⟨_, _, rfl, rfl, ⟨_, _, rfl, rfl, rfl⟩⟩ := h
  exact rfl
theorem k48_openM {w : World} {base : Nat} {ok : Nat → Prop} {x : S48} {cs : List Value} (h : k48.M w base ok x cs) : cs = [.int .i64 x.f0, .int .i64 x.f1, .int .i64 x.f2] := by
  obtain ⟨_, _, rfl, rfl, ⟨_, _, rfl, rfl, rfl⟩⟩ := h
  exact rfl
theorem k48_mk (w : World) (x : S48)  : k48.K w x [.int .i64 x.f0, .int .i64 x.f1, .int .i64 x.f2] := ⟨[.int .i64 x.f0], [.int .i64 x.f1, .int .i64 x.f2], rfl, rfl, ⟨[.int .i64 x.f1], [.int .i64 x.f2], rfl, rfl, rfl⟩⟩
theorem k48_mkM (w : World) (base : Nat) (ok : Nat → Prop) (x : S48)  : k48.M w base ok x [.int .i64 x.f0, .int .i64 x.f1, .int .i64 x.f2] := ⟨[.int .i64 x.f0], [.int .i64 x.f1, .int .i64 x.f2], rfl, rfl, ⟨[.int .i64 x.f1], [.int .i64 x.f2], rfl, rfl, rfl⟩⟩
def rd_T48 (xs : List S48) (i : Int) : S48 := xs.getD i.toNat z48
theorem at_T48 {w : World} {A : Option Addr} {n : Nat} {xs : List S48} (h : Kd.C k48 w A n xs) (i : Int) (h0 : 0 ≤ i) (h1 : i < n) : ∃ ad , A = some ad ∧ w.cell? (ad.add (i.toNat * 3)) = some (.int .i64 (rd_T48 xs i).f0) ∧ w.cell? ⟨(ad.add (i.toNat * 3)).block, (ad.add (i.toNat * 3)).off + 1, none⟩ = some (.int .i64 (rd_T48 xs i).f1) ∧ w.cell? ⟨(ad.add (i.toNat * 3)).block, (ad.add (i.toNat * 3)).off + 2, none⟩ = some (.int .i64 (rd_T48 xs i).f2) := by
  obtain ⟨ad, c, e, _, hK, hc0⟩ := Kd.C_get h z48 i h0 h1
  have hc : ∀ j u, c[j]? = some u → w.cell? (ad.add (i.toNat * 3 + j)) = some u := hc0
  obtain rfl := k48_open hK
  exact ⟨ad, e, hc 0 _ rfl, by rw [← add_field _ _ 1 (by omega)]; exact hc 1 _ rfl, by rw [← add_field _ _ 2 (by omega)]; exact hc 2 _ rfl⟩
structure S24 where
  f0 : (List S48)
def z24 : S24 := ⟨([] : List S48)⟩
def k24 : Kd S24 := Kd.iso (Kd.slice 48 k48) (fun x : S24 => x.f0)
theorem k24_open {w : World} {x : S24} {cs : List Value} (h : k24.K w x cs) : ∃ A0 c0, cs = [.slice A0 x.f0.length c0] ∧ x.f0.length ≤ c0 ∧ k48.C w A0 x.f0.length x.f0 := by
  obtain ⟨A0, c0, rfl, l0, g0⟩ := h
  exact ⟨A0, c0, rfl, l0, g0⟩
theorem k24_mk (w : World) (x : S24) {A0 : Option Addr} {c0 : Nat} (l0 : x.f0.length ≤ c0) (g0 : k48.C w A0 x.f0.length x.f0) : k24.K w x [.slice A0 x.f0.length c0] := ⟨A0, c0, rfl, l0, g0⟩
def rd_T24 (xs : List S24) (i : Int) : S24 := xs.getD i.toNat z24
theorem at_T24 {w : World} {A : Option Addr} {n : Nat} {xs : List S24} (h : Kd.C k24 w A n xs) (i : Int) (h0 : 0 ≤ i) (h1 : i < n) : ∃ ad A0 c0, A = some ad ∧ w.cell? (ad.add i.toNat) = some (.slice A0 (rd_T24 xs i).f0.length c0) ∧ (rd_T24 xs i).f0.length ≤ c0 ∧ k48.C w A0 (rd_T24 xs i).f0.length (rd_T24 xs i).f0 := by
  obtain ⟨ad, c, e, _, hK, hc0⟩ := Kd.C_get h z24 i h0 h1
  have hc : ∀ j u, c[j]? = some u → w.cell? (ad.add (i.toNat * 1 + j)) = some u := hc0
  obtain ⟨A0, c0, rfl, l0, g0⟩ := k24_open hK
  exact ⟨ad, A0, c0, e, by have hq := hc 0 _ rfl; rwa [Nat.mul_one, Nat.add_zero] at hq, l0, g0⟩
structure S26 where
  f0 : Int
  f1 : Int
  f2 : Int
end Go.Proofs.YtpldcikmlpegpaaDoor.PB
end
section
namespace Go.Proofs
open Go.Shelf
def Tryd.lays156_ren : Go.Shelf.Ren := ⟨fun | 156 => 87 | 165 => 96 | 166 => 97 | 169 => 98 | 240 => 100 | 241 => 101 | 276 => 106 | 277 => 107 | n => n, fun | 31 => 97 | 9 => 9 | 3 => 3 | 4 => 4 | 0 => 0 | 20 => 20 | 72 => 109 | 76 => 112 | 70 => 106 | 37 => 107 | 75 => 111 | 127 => 116 | 164 => 123 | 5 => 5 | 80 => 114 | n => n, fun | n => n⟩
theorem Tryd.lays156 : Go.Proofs.Lays.n156 Tryd.prog Tryd.lays156_ren := {
  mixed := by kernel_rfl
  f156 := Tryd.func87.trans (congrArg some (by kernel_rfl))
  f165 := Tryd.func96.trans (congrArg some (by kernel_rfl))
  f166 := Tryd.func97.trans (congrArg some (by kernel_rfl))
  f169 := Tryd.func98.trans (congrArg some (by kernel_rfl))
  f240 := Tryd.func100.trans (congrArg some (by kernel_rfl))
  f241 := Tryd.func101.trans (congrArg some (by kernel_rfl))
  f276 := Tryd.func106.trans (congrArg some (by kernel_rfl))
  f277 := Tryd.func107.trans (congrArg some (by kernel_rfl))
  t0 := Tryd.underlying0
  a0 := Tryd.isAgg0
  z0 := Tryd.sizeOf0
  v0 := Tryd.zeroValue0
  t3 := Tryd.underlying3
  a3 := Tryd.isAgg3
  z3 := Tryd.sizeOf3
  v3 := Tryd.zeroValue3
  t4 := Tryd.underlying4
  a4 := Tryd.isAgg4
  z4 := Tryd.sizeOf4
  v4 := Tryd.zeroValue4
  t9 := Tryd.underlying9
  a9 := Tryd.isAgg9
  z9 := Tryd.sizeOf9
  v9 := Tryd.zeroValue9
  t20 := Tryd.underlying20
  a20 := Tryd.isAgg20
  z20 := Tryd.sizeOf20
  v20 := Tryd.zeroValue20
  t31 := Tryd.underlying97
  a31 := Tryd.isAgg97
  z31 := Tryd.sizeOf97
  v31 := Tryd.zeroValue97
  t37 := Tryd.underlying107
  a37 := Tryd.isAgg107
  z37 := Tryd.sizeOf107
  v37 := Tryd.zeroValue107
  t70 := Tryd.underlying106
  a70 := Tryd.isAgg106
  z70 := Tryd.sizeOf106
  v70 := Tryd.zeroValue106
  t72 := Tryd.underlying109
  a72 := Tryd.isAgg109
  z72 := Tryd.sizeOf109
  v72 := Tryd.zeroValue109
  t75 := Tryd.underlying111
  a75 := Tryd.isAgg111
  z75 := Tryd.sizeOf111
  v75 := Tryd.zeroValue111
  t76 := Tryd.underlying112
  a76 := Tryd.isAgg112
  z76 := Tryd.sizeOf112
  v76 := Tryd.zeroValue112
  t127 := Tryd.underlying116
  a127 := Tryd.isAgg116
  z127 := Tryd.sizeOf116
  v127 := Tryd.zeroValue116
  t164 := Tryd.underlying123
  a164 := Tryd.isAgg123
  z164 := Tryd.sizeOf123
  v164 := Tryd.zeroValue123 }
theorem Tryd.Builder_Extra_156 : Builder.Extra Tryd.prog Tryd.lays156_ren := {
  sizeBuilder := by kernel_rfl
  liesBuilder := by kernel_rfl
  t5 := Tryd.underlying5
  a5 := Tryd.isAgg5
  z5 := Tryd.sizeOf5
  v5 := Tryd.zeroValue5
  infoByte := by kernel_rfl
  cellsByte := by kernel_rfl
  sizeByte := by kernel_rfl
  neB5 := by decide }
open Go.RowKit in
theorem Tryd.strings_Join_none (a : Option Addr) (c : Nat) (sep : ByteArray) (w : World) :
    Calls Tryd.prog 87 #[.slice a 0 c, .string sep] w fun e w' => e = .returned (.string ⟨#[]⟩) ∧ w' = w := Any.strings_Join_none Tryd.lays156 Tryd.Builder_Extra_156 a c sep w
open Go.RowKit in
theorem Tryd.strings_Join (bk o c : Nat) (xs : List ByteArray) (sep : ByteArray) (w : World) (hcells : ∀ (j : Nat) x, xs[j]? = some x → w.cell? ⟨bk, o + j, none⟩ = some (.string x)) (hbk : bk < w.heap.size) (hN : xs.length ≤ 140737488355328) (hcap : xs.length ≤ c) (hlen : (Lib.join (xs.map (·.data.toList)) sep.data.toList).length ≤ 140737488355328) :
    Calls Tryd.prog 87 #[.slice (some ⟨bk, o, none⟩) xs.length c, .string sep] w fun e w' => e = .returned (.string ⟨(Lib.join (xs.map (·.data.toList)) sep.data.toList).toArray⟩) ∧ Below w.heap.size w w' := Any.strings_Join Tryd.lays156 Tryd.Builder_Extra_156 bk o c xs sep w hcells hbk hN hcap hlen
def Tryd.laysM171_ren : Go.Shelf.Ren := ⟨fun | 171 => 86 | 243 => 95 | 246 => 99 | 283 => 102 | 284 => 103 | 285 => 104 | 286 => 105 | 129 => 109 | 317 => 108 | 318 => 110 | 319 => 111 | 320 => 112 | 337 => 113 | 338 => 114 | n => n, fun | 3 => 3 | 9 => 9 | 2 => 2 | 4 => 4 | 171 => 117 | 0 => 0 | 53 => 118 | 37 => 107 | 5 => 5 | 173 => 121 | 212 => 128 | 51 => 129 | 20 => 20 | 213 => 130 | 46 => 132 | 232 => 135 | 233 => 136 | n => n, fun | 17 => 0 | 18 => 2 | 19 => 3 | n => n⟩
theorem Tryd.laysM171 : Go.Proofs.LaysM.n171 Tryd.prog Tryd.laysM171_ren := {
  mixed := by kernel_rfl
  f129 := Tryd.func109.trans (congrArg some (by kernel_rfl))
  f171 := Tryd.func86.trans (congrArg some (by kernel_rfl))
  f243 := Tryd.func95.trans (congrArg some (by kernel_rfl))
  f246 := Tryd.func99.trans (congrArg some (by kernel_rfl))
  f283 := Tryd.func102.trans (congrArg some (by kernel_rfl))
  f284 := Tryd.func103.trans (congrArg some (by kernel_rfl))
  f285 := Tryd.func104.trans (congrArg some (by kernel_rfl))
  f286 := Tryd.func105.trans (congrArg some (by kernel_rfl))
  f317 := Tryd.func108.trans (congrArg some (by kernel_rfl))
  f318 := Tryd.func110.trans (congrArg some (by kernel_rfl))
  f319 := Tryd.func111.trans (congrArg some (by kernel_rfl))
  f320 := Tryd.func112.trans (congrArg some (by kernel_rfl))
  f337 := Tryd.func113.trans (congrArg some (by kernel_rfl))
  f338 := Tryd.func114.trans (congrArg some (by kernel_rfl))
  t0 := Tryd.underlying0
  a0 := Tryd.isAgg0
  z0 := Tryd.sizeOf0
  v0 := Tryd.zeroValue0
  t2 := Tryd.underlying2
  a2 := Tryd.isAgg2
  z2 := Tryd.sizeOf2
  v2 := Tryd.zeroValue2
  t3 := Tryd.underlying3
  a3 := Tryd.isAgg3
  z3 := Tryd.sizeOf3
  v3 := Tryd.zeroValue3
  t4 := Tryd.underlying4
  a4 := Tryd.isAgg4
  z4 := Tryd.sizeOf4
  v4 := Tryd.zeroValue4
  t5 := Tryd.underlying5
  a5 := Tryd.isAgg5
  z5 := Tryd.sizeOf5
  v5 := Tryd.zeroValue5
  t9 := Tryd.underlying9
  a9 := Tryd.isAgg9
  z9 := Tryd.sizeOf9
  v9 := Tryd.zeroValue9
  t20 := Tryd.underlying20
  a20 := Tryd.isAgg20
  z20 := Tryd.sizeOf20
  v20 := Tryd.zeroValue20
  t37 := Tryd.underlying107
  a37 := Tryd.isAgg107
  z37 := Tryd.sizeOf107
  v37 := Tryd.zeroValue107
  t46 := Tryd.underlying132
  a46 := Tryd.isAgg132
  z46 := Tryd.sizeOf132
  v46 := Tryd.zeroValue132
  t51 := Tryd.underlying129
  a51 := Tryd.isAgg129
  z51 := Tryd.sizeOf129
  v51 := Tryd.zeroValue129
  t53 := Tryd.underlying118
  a53 := Tryd.isAgg118
  z53 := Tryd.sizeOf118
  v53 := Tryd.zeroValue118
  t171 := Tryd.underlying117
  a171 := Tryd.isAgg117
  z171 := Tryd.sizeOf117
  v171 := Tryd.zeroValue117
  t173 := Tryd.underlying121
  a173 := Tryd.isAgg121
  z173 := Tryd.sizeOf121
  v173 := Tryd.zeroValue121
  t212 := Tryd.underlying128
  a212 := Tryd.isAgg128
  z212 := Tryd.sizeOf128
  v212 := Tryd.zeroValue128
  t213 := Tryd.underlying130
  a213 := Tryd.isAgg130
  z213 := Tryd.sizeOf130
  t232 := Tryd.underlying135
  a232 := Tryd.isAgg135
  z232 := Tryd.sizeOf135
  v232 := Tryd.zeroValue135
  t233 := Tryd.underlying136
  a233 := Tryd.isAgg136
  z233 := Tryd.sizeOf136
  v233 := Tryd.zeroValue136
  g17 := by kernel_rfl
  g18 := by kernel_rfl
  g19 := by kernel_rfl
  i0 := by kernel_rfl
  i2 := by kernel_rfl
  i3 := by kernel_rfl
  i4 := by kernel_rfl
  i5 := by kernel_rfl
  i9 := by kernel_rfl
  i20 := by kernel_rfl
  i37 := by kernel_rfl
  i46 := by kernel_rfl
  i51 := by kernel_rfl
  i53 := by kernel_rfl
  i171 := by kernel_rfl
  i173 := by kernel_rfl
  i212 := by kernel_rfl
  i232 := by kernel_rfl
  i233 := by kernel_rfl
  m17 := by kernel_rfl
  m18 := by kernel_rfl
  m19 := by kernel_rfl }
open Go.RowKit Go.Sort Go.Lib in
theorem Tryd.strconv_Itoa (n : Int) (h0 : -9223372036854775808 ≤ n) (h1 : n ≤ 9223372036854775807) (w : World) (htab : Lib.TabIs Tryd.prog w "internal/strconv.uint64pow10" .u64 Lib.pow10Tab) :
    Calls Tryd.prog 86 #[.int .i64 n] w fun e w' => e = .returned (.string ⟨(Lib.itoa n).toArray⟩) ∧ ∃ k os, w' = grow (w.drewN k) os := Any.strconv_Itoa Tryd.laysM171 n h0 h1 w htab
end Go.Proofs
end
section
namespace Go.Proofs.YtpldcikmlpegpaaDoor.PB
open Go.RowKit Go.Proofs.YtpldcikmlpegpaaDoorW.PrintWords Go.Proofs.YtpldcikmlpegpaaDoorW.PrintLast Go.Proofs.YtpldcikmlpegpaaDoorW.PrintMore
def Glob (w : World) : Prop := Lib.TabIs Tryd.prog w "internal/strconv.uint64pow10" .u64 Lib.pow10Tab
theorem globN : Tryd.prog.globalNamed "internal/strconv.uint64pow10" = some 0 := by kernel_rfl
theorem Glob.below {w w' : World} {B : Nat} (h : Glob w) (hb : Below B w w') (hB : w.heap.size ≤ B) : Glob w' := Go.Joins.tab_stays globN h hb hB
def itoaB (n : Int) : ByteArray := ⟨(Lib.itoa n).toArray⟩
def inI64 (n : Int) : Prop := -9223372036854775808 ≤ n ∧ n ≤ 9223372036854775807
instance (n : Int) : Decidable (inI64 n) := inferInstanceAs (Decidable (_ ∧ _))
def strconv_Itoa.f (n : Int) : Option ByteArray := if inI64 n then some (itoaB n) else none
theorem strconv_Itoa.calls (n : Int) (r : ByteArray) (w : World) (hG : Glob w) (h : strconv_Itoa.f n = some r) :
    Calls Tryd.prog 86 #[.int .i64 n] w fun e w' => e = .returned (.string r) ∧ Below w.heap.size w w' := by
  unfold strconv_Itoa.f at h
  split at h <;> cases h
  rename_i hn
  refine (Tryd.strconv_Itoa n hn.1 hn.2 w hG).mono ?_
  rintro e w' ⟨rfl, k, os, rfl⟩
  exact ⟨rfl, Lib.below_grow _ _ (Nat.le_refl _) _ _⟩
def joinB (xs : List ByteArray) (sep : ByteArray) : ByteArray := ⟨(Lib.join (xs.map (·.data.toList)) sep.data.toList).toArray⟩
def strings_Join.f (xs : List ByteArray) (sep : ByteArray) : Option ByteArray :=
  if xs.length ≤ 140737488355328 ∧ (Lib.join (xs.map (·.data.toList)) sep.data.toList).length ≤ 140737488355328 then some (joinB xs sep) else none
theorem strings_Join.calls (A0 : Option Addr) (c0 : Nat) (l0 : List ByteArray) (a1 : ByteArray) (r : ByteArray) (w : World) (hr : Kd.C Kd.string w A0 l0.length l0) (hc : l0.length ≤ c0) (h : strings_Join.f l0 a1 = some r) :
    Calls Tryd.prog 87 #[.slice A0 l0.length c0, .string a1] w fun e w' => e = .returned (.string r) ∧ Below w.heap.size w w' := by
  unfold strings_Join.f at h
  split at h <;> cases h
  rename_i hl
  obtain ⟨hl1, hl2⟩ := hl
  cases l0 with
  | nil =>
    refine (Tryd.strings_Join_none A0 c0 a1 w).mono ?_
    rintro e w' ⟨rfl, rfl⟩
    exact ⟨rfl, Below.refl _ _⟩
  | cons x xs =>
    obtain ⟨ad, rfl, hcell⟩ := Kd.at_string hr 0 (by omega) (by rw [List.length_cons]; omega)
    have hall : ∀ (j : Nat) y, (x :: xs)[j]? = some y → w.cell? (ad.add j) = some (.string y) := by
      intro j y hy
      obtain ⟨hj, hy'⟩ := List.getElem?_eq_some_iff.1 hy
      obtain ⟨ad', he, hc'⟩ := Kd.at_string hr (j : Int) (by omega) (by omega)
      injection he with he
      subst he
      simp only [Int.toNat_natCast, rdOf] at hc'
      rw [hc', List.getD_eq_getElem?_getD, hy]
      rfl
    obtain ⟨bk, o, sp⟩ := ad
    have h0 := hall 0 x rfl
    have hsp : sp = none ∧ bk < w.heap.size := by
      unfold World.cell? at h0
      simp only [Addr.add, if_true] at h0
      split at h0
      · rename_i hb
        refine ⟨?_, (Array.getElem?_eq_some_iff.1 hb).1⟩
        cases sp with
        | none => rfl
        | some _ => simp at h0
      · simp at h0
    obtain ⟨rfl, hbk⟩ := hsp
    refine (Tryd.strings_Join bk o c0 (x :: xs) a1 w ?_ hbk hl1 hc hl2).mono ?_
    · intro j y hy
      have := hall j y hy
      unfold Addr.add at this
      split at this
      · rename_i hj
        subst hj
        exact this
      · exact this
    · rintro e w' ⟨rfl, hb⟩
      exact ⟨rfl, hb⟩
end Go.Proofs.YtpldcikmlpegpaaDoor.PB
end
section
namespace Go.Proofs.YtpldcikmlpegpaaDoor.Open
open Go.ChangeShapes Go.WideShapes Go.ChangeAt Go.RowKit Go.Deep Go.Joins Go.Proofs.YtpldcikmlpegpaaDoor.PB Go.Proofs.YtpldcikmlpegpaaDoorW.PrintWords Go.Proofs.YtpldcikmlpegpaaDoorW.PrintLast Go.Proofs.YtpldcikmlpegpaaDoorW.PrintMore
section
variable {H : Type} {enc : TypeId × Value → H} {P : Program} {w : World} {base : Nat} {spare : Nat → Bool} {held : Bool}
theorem open_agg1 {r : Reach} {b0 : Nat} {t : TypeId} {f0 : Field} {v : Value} {d : DataW H} {p : List MemPlace} (hs : P.underlying t = some (.struct #[f0])) (hone : oneCellFields P #[f0] = true) (hC : P.cellsOf t = 1)
    (hv : Value.okWide P w r b0 t v) (h : DataW.Trod enc P w base spare held t v d p) :
    ∃ (v0 : Value) (y0 : DataW H × List MemPlace) (n : Nat), v = .agg #[v0] ∧ d = .agg [y0.1] ∧ p = y0.2 ∧ DataW.trod enc P w base spare held n f0.type [v0] = some y0 := by
  obtain ⟨cs, rfl, hsz⟩ := okWide_struct hs hv
  obtain ⟨l⟩ := cs
  match l, hsz.trans hC with
  | [c0], _ =>
    obtain ⟨fuel, hf⟩ := h
    obtain ⟨xs, n, _, hx, _, hlen, hg⟩ := DataW.trod_struct hs hf
    obtain ⟨o0, k0⟩ := hone_of hone 0 f0 rfl
    match xs, hlen with
    | [y0], _ =>
      simp only [Prod.mk.injEq] at hx
      exact ⟨c0, y0, n, rfl, by simpa using hx.1, by simpa using hx.2, by simpa [Value.cells, o0, k0] using hg 0 f0 rfl⟩
theorem open_fields {t e : TypeId} {fs : Array Field} {fuel : Nat} {cs : List Value} {x : DataW H × List MemPlace} (ht : P.underlying t = some (.slice e)) (he : P.underlying e = some (.struct fs))
    (hone : oneCellFields P fs = true) (hC : P.cellsOf e = fs.size) (h : DataW.trod enc P w base spare held fuel t cs = some x) :
    cs = [.slice none 0 0] ∨
    ∃ (a : Addr) (len cap : Nat), cs = [.slice (some a) len cap] ∧ len ≤ cap ∧ cap ≤ maxLen ∧
      ∀ i, i < len → ∀ (j : Nat) (f : Field), fs[j]? = some f → ∃ (v : Value) (n : Nat) (y : DataW H × List MemPlace), w.cell? (a.add (i * fs.size + j)) = some v ∧ DataW.trod enc P w base spare held n f.type [v] = some y := by
  rcases open_slice ht h with h0 | ⟨a, len, cap, m, n, D, Pl, hcs, hb, hl, hm, hmm, hx, hi⟩
  · exact .inl h0.1
  · refine .inr ⟨a, len, cap, hcs, hl, hm, fun i him j f hj => ?_⟩
    obtain ⟨cs', hc, ht'⟩ := hi i (by rw [hmm]; split <;> omega)
    rw [hC] at hc
    obtain ⟨ys, n', hn', hy, hlen, hyl, hf⟩ := DataW.trod_struct he ht'
    obtain ⟨_, hcl, hat⟩ := World.cells?_some hc
    obtain ⟨ho, hk⟩ := hone_of hone j f hj
    have hjl : j < fs.size := (Array.getElem?_eq_some_iff.1 hj).1
    have hcell := hat j hjl
    have hv : cs'[j]? = some (cs'[j]'(by omega)) := List.getElem?_eq_getElem (by omega)
    have h1 := hf j f hj
    rw [ho, hk] at h1
    have hone' : (cs'.drop j).take 1 = [cs'[j]'(by omega)] := by
      rw [List.drop_eq_getElem_cons (by omega)]
      rfl
    rw [hone'] at h1
    have hys : ys[j]? = some (ys[j]'(by omega)) := List.getElem?_eq_getElem (by omega)
    refine ⟨_, _, _, ?_, h1.trans hys⟩
    rw [← Go.Deep.add_add, hcell, hv]
theorem list_of {α : Type} {R : Nat → α → Prop} : ∀ (n : Nat), (∀ i, i < n → ∃ x, R i x) → ∃ l : List α, l.length = n ∧ ∀ i x, l[i]? = some x → R i x
  | 0, _ => ⟨[], rfl, fun i x h => by simp at h⟩
  | n + 1, h => by
    obtain ⟨l, hl, hr⟩ := list_of n (fun i hi => h i (by omega))
    obtain ⟨x, hx⟩ := h n (by omega)
    refine ⟨l ++ [x], by simp [hl], fun i y hy => ?_⟩
    by_cases hi : i < n
    · rw [List.getElem?_append_left (by omega)] at hy
      exact hr i y hy
    · rw [List.getElem?_append_right (by omega)] at hy
      have h0 : i - l.length = 0 := by
        rcases Nat.eq_zero_or_pos (i - l.length) with h0 | h0
        · exact h0
        · rw [List.getElem?_eq_none (by simp; omega)] at hy; simp at hy
      rw [h0] at hy
      simp at hy
      subst hy
      rw [show i = n by omega]
      exact hx
end
section
variable {H : Type} {enc : TypeId × Value → H} {w : World} {base : Nat} {spare : Nat → Bool} {held : Bool}
def i64 (n : Int) : Prop := (Lit.int .i64 n).wf = true
def LyI (x : S48) : Prop := i64 x.f0 ∧ i64 x.f1 ∧ i64 x.f2
set_option maxRecDepth 100000 in
theorem open_layers {fuel : Nat} {cs : List Value} {x : DataW H × List MemPlace} (h : DataW.trod enc Tryd.prog w base spare held fuel 22 cs = some x) :
    ∃ (A : Option Addr) (c : Nat) (l : List S48), cs = [.slice A l.length c] ∧ l.length ≤ c ∧ Kd.C k48 w A l.length l ∧ ∀ x ∈ l, LyI x := by
  rcases open_fields Tryd.underlying22 Tryd.underlying48 (by kernel_rfl) (by kernel_rfl) h with rfl | ⟨a, len, cap, rfl, hl, hm, hf⟩
  · exact ⟨none, 0, [], rfl, Nat.le_refl _, ⟨rfl, by simp, fun h => by simp at h⟩, fun x hx => by simp at hx⟩
  · obtain ⟨l, rfl, hr⟩ := list_of (R := fun i (x : S48) => w.cell? (a.add (i * 3)) = some (.int .i64 x.f0) ∧ w.cell? (a.add (i * 3 + 1)) = some (.int .i64 x.f1) ∧ w.cell? (a.add (i * 3 + 2)) = some (.int .i64 x.f2) ∧ LyI x) len (by
      intro i hi
      obtain ⟨v0, n0, y0, c0, t0⟩ := hf i hi 0 _ rfl
      obtain ⟨v1, n1, y1, c1, t1⟩ := hf i hi 1 _ rfl
      obtain ⟨v2, n2, y2, c2, t2⟩ := hf i hi 2 _ rfl
      obtain ⟨z0, e0, _, w0⟩ := DataW.trod_int Tryd.underlying3 t0
      obtain ⟨z1, e1, _, w1⟩ := DataW.trod_int Tryd.underlying3 t1
      obtain ⟨z2, e2, _, w2⟩ := DataW.trod_int Tryd.underlying3 t2
      simp only [List.cons.injEq, and_true] at e0 e1 e2
      subst e0 e1 e2
      exact ⟨⟨z0, z1, z2⟩, c0, c1, c2, w0, w1, w2⟩)
    refine ⟨some a, cap, l, rfl, hl, ⟨rfl, by have : maxLen = 9223372036854775807 := rfl; omega, fun _ => ⟨a, rfl, fun j p hp => ?_⟩⟩, fun x hx => ?_⟩
    · obtain ⟨c0, c1, c2, _⟩ := hr j p hp
      refine ⟨_, rfl, k48_mk w p, fun i u hu => ?_⟩
      match i, hu with
      | 0, hu => cases hu; exact c0
      | 1, hu => cases hu; exact c1
      | 2, hu => cases hu; exact c2
      | i + 3, hu => simp at hu
    · obtain ⟨j, hj⟩ := List.getElem?_of_mem hx
      exact (hr j x hj).2.2.2
set_option maxRecDepth 100000 in
theorem open_pack {r : Reach} {b0 : Nat} {v : Value} {d : DataW H} {p : List MemPlace} (hv : Value.okWide Tryd.prog w r b0 24 v) (h : DataW.Trod enc Tryd.prog w base spare held 24 v d p) :
    ∃ (A : Option Addr) (c : Nat) (l : List S48), v = .agg #[.slice A l.length c] ∧ l.length ≤ c ∧ Kd.C k48 w A l.length l ∧ ∀ x ∈ l, LyI x := by
  obtain ⟨v0, y0, n, rfl, _, _, h0⟩ := open_agg1 Tryd.underlying24 (by kernel_rfl) (by kernel_rfl) hv h
  obtain ⟨A, c, l, hcs, hl, hC, hi⟩ := open_layers h0
  simp only [List.cons.injEq, and_true] at hcs
  exact ⟨A, c, l, by rw [hcs], hl, hC, hi⟩
end
def laid3 : List (String × DataW Unit) := [("math/bits.deBruijn32tab", Rows.laid_math_bits_deBruijn32tab), ("math/bits.deBruijn64tab", Rows.laid_math_bits_deBruijn64tab), ("internal/strconv.uint64pow10", Rows.laid_internal_strconv_uint64pow10)]
theorem own : ownKnob Tryd.prog.godebug = none := by kernel_rfl
theorem laidOut : laidOutB Tryd.prog = true := by kernel_rfl
theorem gType : (Tryd.prog.globals[0]?).map (·.type) = some 128 := by kernel_rfl
theorem pow_tab : (Rows.laid_internal_strconv_uint64pow10 : DataW Unit) = Lib.tabData .u64 Lib.pow10Tab := rfl
theorem door_met (os : Os) (args : Array Value) : laidMetH Tryd.prog laid3 ((World.doorLaid Tryd.prog 400 os).forCall (fun _ _ => 0) ⟨#[], args, []⟩).memory :=
  laidMetH_of_parts3 (fuel := 8) (laidMet_of_run' 8 (by kernel_rfl) (by kernel_rfl)) (by kernel_rfl) (by kernel_rfl)
theorem glob_of {W : World} (h : laidMetH Tryd.prog laid3 W) : Glob W := by
  rw [MakeChecks.laidMetH_plain _ _ _ (by kernel_rfl)] at h
  obtain ⟨ps, ⟨g0, t0, cs0, f0, p0, q0, hg0, ht0, hv0, hd0, ⟨g1, t1, cs1, f1, p1, q1, hg1, ht1, hv1, hd1, ⟨g2, t2, cs2, f2, p2, q2, hg2, ht2, hv2, hd2, _, _⟩, _⟩, _⟩, _, _⟩ := h
  obtain rfl := Option.some.inj (globN.symm.trans hg2)
  obtain rfl := Option.some.inj (gType.symm.trans ht2)
  rw [pow_tab] at hd2
  unfold Glob Lib.TabIs
  rw [hv2, ← Lib.cells_of_tab Tryd.underlying128 Tryd.underlying118 (by kernel_rfl) (by kernel_rfl) hd2]
end Go.Proofs.YtpldcikmlpegpaaDoor.Open
end
section
namespace Go.Proofs.YtpldcikmlpegpaaDoor.PB
open Go.RowKit Go.Proofs.YtpldcikmlpegpaaDoorW.PrintWords Go.Proofs.YtpldcikmlpegpaaDoorW.PrintLast Go.Proofs.YtpldcikmlpegpaaDoorW.PrintMore
theorem one_row (T : TypeId) {w W : World} {A : Option Addr} {n c p : Nat} {x : List S48} (h : Kd.C k48 w A n x) (hp : w.heap.size = p) (hW : w.alloc (.cells #[.slice A n c] T (0, 0)) = W) :
    Aside0 (∀ wX : World, Below W.heap.size W wX → wX.cell? ⟨p, 0, none⟩ = some (.slice A n c) ∧ Kd.C k48 wX A n x) := by
  subst hp hW
  exact ⟨fun wX hb => ⟨(blk_cell (blk_below (blk_new _ _) hb) 0).trans rfl, Kd.C_below h (below_step (below_alloc (Below.refl _ _) _) hb)⟩⟩
theorem two_rows (T : TypeId) {w W : World} {A A' : Option Addr} {n c n' c' p : Nat} {x y : List S48} (h : Kd.C k48 w A n x) (h' : Kd.C k48 w A' n' y) (hp : w.heap.size = p)
    (hW : (w.alloc (.cells #[.slice A n c] T (0, 0))).alloc (.cells #[.slice A' n' c'] T (0, 0)) = W) :
    Aside0 (∀ wX : World, Below W.heap.size W wX → (wX.cell? ⟨p, 0, none⟩ = some (.slice A n c) ∧ wX.cell? ⟨p + 1, 0, none⟩ = some (.slice A' n' c')) ∧ Kd.C k48 wX A n x ∧ Kd.C k48 wX A' n' y) := by
  subst hp hW
  have hb0 : Below w.heap.size w ((w.alloc (.cells #[.slice A n c] T (0, 0))).alloc (.cells #[.slice A' n' c'] T (0, 0))) := below_alloc (below_alloc (Below.refl _ _) _) _
  have e : (w.alloc (.cells #[.slice A n c] T (0, 0))).heap.size = w.heap.size + 1 := by simp
  have h2 := blk_new (w.alloc (.cells #[.slice A n c] T (0, 0))) (.cells #[.slice A' n' c'] T (0, 0))
  rw [e] at h2
  exact ⟨fun wX hb => ⟨⟨(blk_cell (blk_below (blk_alloc (blk_new _ _) _) hb) 0).trans rfl, (blk_cell (blk_below h2 hb) 0).trans rfl⟩, Kd.C_below h (below_step hb0 hb), Kd.C_below h' (below_step hb0 hb)⟩⟩
theorem packs_two {W : World} {A A' : Option Addr} {c c' : Nat} {l l' : List S48} (h : Kd.C k48 W A l.length l) (hc : l.length ≤ c) (h' : Kd.C k48 W A' l'.length l') (hc' : l'.length ≤ c') :
    Kd.C k24 (W.alloc (.cells #[.slice A l.length c, .slice A' l'.length c'] 24 (0, 0))) (some ⟨W.heap.size, 0, none⟩) 2 [⟨l⟩, ⟨l'⟩] := by
  refine ⟨rfl, by decide, fun _ => ⟨_, rfl, fun j p hp => ?_⟩⟩
  match j, hp with
  | 0, hp =>
    cases hp
    refine ⟨[.slice A l.length c], rfl, k24_mk _ _ hc (Kd.C_below h (below_alloc (Below.refl _ _) _)), fun i u hu => ?_⟩
    match i, hu with
    | 0, hu => cases hu; exact (blk_cell (blk_new _ _) 0).trans rfl
    | i + 1, hu => simp at hu
  | 1, hp =>
    cases hp
    refine ⟨[.slice A' l'.length c'], rfl, k24_mk _ _ hc' (Kd.C_below h' (below_alloc (Below.refl _ _) _)), fun i u hu => ?_⟩
    match i, hu with
    | 0, hu => cases hu; exact (blk_cell (blk_new _ _) 1).trans rfl
    | i + 1, hu => simp at hu
  | j + 2, hp => simp at hp
end Go.Proofs.YtpldcikmlpegpaaDoor.PB
end
section
namespace Go.Proofs.YtpldcikmlpegpaaDoor.Col
open Go.RowKit Go.Proofs.YtpldcikmlpegpaaDoor.PB Go.Proofs.YtpldcikmlpegpaaDoorW.PrintWords Go.Proofs.YtpldcikmlpegpaaDoorW.PrintLast Go.Proofs.YtpldcikmlpegpaaDoorW.PrintMore
structure KeepG (g : Nat) (w w' : World) : Prop where
  os : w'.os = w.os
  tape : w'.tape = w.tape
  output : w'.output = w.output
  size : w.heap.size ≤ w'.heap.size
  block : ∀ k, k < w.heap.size → k ≠ g → w'.heap[k]? = w.heap[k]?
theorem KeepG.refl (g : Nat) (w : World) : KeepG g w w := ⟨rfl, rfl, rfl, Nat.le_refl _, fun _ _ _ => rfl⟩
theorem KeepG.trans {g : Nat} {a b c : World} (h : KeepG g a b) (k : KeepG g b c) : KeepG g a c :=
  ⟨k.os.trans h.os, k.tape.trans h.tape, k.output.trans h.output, Nat.le_trans h.size k.size, fun i hi hg => (k.block i (Nat.lt_of_lt_of_le hi h.size) hg).trans (h.block i hi hg)⟩
theorem KeepG.of_below {g : Nat} {w w' : World} (h : Below w.heap.size w w') : KeepG g w w' := ⟨h.os, h.tape, h.output, h.size, fun k hk _ => h.block k hk⟩
theorem KeepG.below {g B : Nat} {w0 w w' : World} (h : KeepG g w w') (hb : Below B w0 w) (hB : B ≤ g) (hs : B ≤ w.heap.size) : Below B w0 w' :=
  ⟨h.os.trans hb.os, h.tape.trans hb.tape, h.output.trans hb.output, Nat.le_trans hb.size h.size, fun k hk => (h.block k (by omega) (by omega)).trans (hb.block k hk)⟩
theorem KeepG.set (g : Nat) (w : World) (i : Nat) (v : Value) : KeepG g w (w.setCell ⟨g, i, none⟩ v) := by
  refine ⟨?_, ?_, ?_, ?_, fun k hk hg => Below.heap_setCell w ⟨g, i, none⟩ v k hg⟩
  all_goals (unfold World.setCell; first | rfl | (split <;> first | rfl | simp) | simp)
theorem KeepG.drew (g : Nat) (w : World) : KeepG g w w.drew := ⟨rfl, rfl, rfl, Nat.le_refl _, fun _ _ _ => rfl⟩
theorem KeepG.drewN (g : Nat) (w : World) (n : Nat) : KeepG g w (w.drewN n) := ⟨rfl, rfl, rfl, Nat.le_refl _, fun _ _ _ => rfl⟩
theorem KeepG.blk {g k : Nat} {w w' : World} {o : Obj} (h : KeepG g w w') (hb : w.heap[k]? = some o) (hg : k ≠ g) : w'.heap[k]? = some o := (h.block k (blk_lt hb) hg).trans hb
def lcells (l : S48) : List Value := [.int .i64 l.f0, .int .i64 l.f1, .int .i64 l.f2]
structure C where
  at_ : List S48
  top : Nat
  n : Nat
  out : Int
  taken : Int
def cells (c : C) : List Value := c.at_.flatMap lcells ++ [.int .i64 (c.top : Int), .int .i64 (c.n : Int), .int .i64 c.out, .int .i64 c.taken]
def Is (w : World) (g : Nat) (c : C) : Prop := c.at_.length = 65 ∧ w.heap[g]? = some (.cells (cells c).toArray 80 (0, 0))
theorem flat_len (xs : List S48) : (xs.flatMap lcells).length = xs.length * 3 := by
  induction xs with
  | nil => rfl
  | cons x xs ih => rw [List.flatMap_cons, List.length_append, ih]; simp [lcells]; omega
theorem flat_get (xs : List S48) : ∀ (i j : Nat), i < xs.length → j < 3 → (xs.flatMap lcells)[i * 3 + j]? = (lcells (xs.getD i z48))[j]? := by
  induction xs with
  | nil => intro i j h; simp at h
  | cons x xs ih =>
    intro i j h hj
    rw [List.flatMap_cons]
    cases i with
    | zero => rw [List.getElem?_append_left (by simp [lcells]; omega)]; simp
    | succ i =>
      rw [List.getElem?_append_right (by simp [lcells]; omega)]
      have e : (i + 1) * 3 + j - (lcells x).length = i * 3 + j := by simp [lcells]; omega
      rw [e, ih i j (by simpa using h) hj]
      simp
theorem flat_set (xs : List S48) : ∀ (i j : Nat) (v : Value) (y : S48), i < xs.length → j < 3 → (lcells (xs.getD i z48)).set j v = lcells y → (xs.flatMap lcells).set (i * 3 + j) v = (xs.set i y).flatMap lcells := by
  induction xs with
  | nil => intro i j v y h; simp at h
  | cons x xs ih =>
    intro i j v y h hj e
    rw [List.flatMap_cons]
    cases i with
    | zero =>
      rw [List.set_append_left _ _ (by simp [lcells]; omega)]
      simp at e
      simp [e]
    | succ i =>
      rw [List.set_append_right _ _ (by simp [lcells]; omega)]
      have e2 : (i + 1) * 3 + j - (lcells x).length = i * 3 + j := by simp [lcells]; omega
      rw [e2, ih i j v y (by simpa using h) hj (by simpa using e)]
      simp
section
variable {w : World} {g : Nat} {c : C}
theorem Is.cell (h : Is w g c) (k : Nat) : w.cell? ⟨g, k, none⟩ = (cells c)[k]? := by
  rw [blk_cell h.2]; simp
theorem Is.layer (h : Is w g c) (i j : Nat) (hi : i < 65) (hj : j < 3) : w.cell? ⟨g, i * 3 + j, none⟩ = (lcells (c.at_.getD i z48))[j]? := by
  rw [h.cell]
  unfold cells
  rw [List.getElem?_append_left (by rw [flat_len, h.1]; omega), flat_get _ _ _ (by rw [h.1]; exact hi) hj]
theorem Is.ice (h : Is w g c) (i : Nat) (hi : i < 65) : w.cell? ⟨g, i * 3, none⟩ = some (.int .i64 (c.at_.getD i z48).f0) := h.layer i 0 hi (by omega)
theorem Is.wet (h : Is w g c) (i : Nat) (hi : i < 65) : w.cell? ⟨g, i * 3 + 1, none⟩ = some (.int .i64 (c.at_.getD i z48).f1) := h.layer i 1 hi (by omega)
theorem Is.cold (h : Is w g c) (i : Nat) (hi : i < 65) : w.cell? ⟨g, i * 3 + 2, none⟩ = some (.int .i64 (c.at_.getD i z48).f2) := h.layer i 2 hi (by omega)
theorem Is.tail (h : Is w g c) (j : Nat) : w.cell? ⟨g, 195 + j, none⟩ = ([.int .i64 (c.top : Int), .int .i64 (c.n : Int), .int .i64 c.out, .int .i64 c.taken] : List Value)[j]? := by
  rw [h.cell]
  unfold cells
  have e : 195 + j - 65 * 3 = j := by omega
  rw [List.getElem?_append_right (by rw [flat_len, h.1]; omega), flat_len, h.1, e]
theorem Is.top (h : Is w g c) : w.cell? ⟨g, 195, none⟩ = some (.int .i64 (c.top : Int)) := h.tail 0
theorem Is.n (h : Is w g c) : w.cell? ⟨g, 196, none⟩ = some (.int .i64 (c.n : Int)) := h.tail 1
theorem Is.out (h : Is w g c) : w.cell? ⟨g, 197, none⟩ = some (.int .i64 c.out) := h.tail 2
theorem Is.taken (h : Is w g c) : w.cell? ⟨g, 198, none⟩ = some (.int .i64 c.taken) := h.tail 3
theorem Is.free (h : Is w g c) (k : Nat) : w.frozen? ⟨g, k, none⟩ = false := blk_frozen h.2 k
theorem Is.lt (h : Is w g c) : g < w.heap.size := blk_lt h.2
theorem Is.put (h : Is w g c) (k : Nat) (v : Value) {c' : C} (hl : c'.at_.length = 65) (e : (cells c).set k v = cells c') : Is (w.setCell ⟨g, k, none⟩ v) g c' := by
  refine ⟨hl, ?_⟩
  rw [blk_set h.2, List.setIfInBounds_toArray, e]
theorem Is.putLayer (h : Is w g c) (i j : Nat) (hi : i < 65) (hj : j < 3) (v : Value) (y : S48) (e : (lcells (c.at_.getD i z48)).set j v = lcells y) : Is (w.setCell ⟨g, i * 3 + j, none⟩ v) g { c with at_ := c.at_.set i y } := by
  refine h.put _ _ (by simp [h.1]) ?_
  unfold cells
  rw [List.set_append_left _ _ (by rw [flat_len, h.1]; omega), flat_set _ _ _ _ y (by rw [h.1]; exact hi) hj e]
theorem Is.putIce (h : Is w g c) (i : Nat) (hi : i < 65) (x : Int) : Is (w.setCell ⟨g, i * 3, none⟩ (.int .i64 x)) g { c with at_ := c.at_.set i ⟨x, (c.at_.getD i z48).f1, (c.at_.getD i z48).f2⟩ } := h.putLayer i 0 hi (by omega) _ _ rfl
theorem Is.putWet (h : Is w g c) (i : Nat) (hi : i < 65) (x : Int) : Is (w.setCell ⟨g, i * 3 + 1, none⟩ (.int .i64 x)) g { c with at_ := c.at_.set i ⟨(c.at_.getD i z48).f0, x, (c.at_.getD i z48).f2⟩ } := h.putLayer i 1 hi (by omega) _ _ rfl
theorem Is.putCold (h : Is w g c) (i : Nat) (hi : i < 65) (x : Int) : Is (w.setCell ⟨g, i * 3 + 2, none⟩ (.int .i64 x)) g { c with at_ := c.at_.set i ⟨(c.at_.getD i z48).f0, (c.at_.getD i z48).f1, x⟩ } := h.putLayer i 2 hi (by omega) _ _ rfl
theorem Is.putTail (h : Is w g c) (j : Nat) (v : Value) {c' : C} (ha : c'.at_ = c.at_) (e : ([.int .i64 (c.top : Int), .int .i64 (c.n : Int), .int .i64 c.out, .int .i64 c.taken] : List Value).set j v = [.int .i64 (c'.top : Int), .int .i64 (c'.n : Int), .int .i64 c'.out, .int .i64 c'.taken]) : Is (w.setCell ⟨g, 195 + j, none⟩ v) g c' := by
  refine h.put _ _ (by rw [ha, h.1]) ?_
  unfold cells
  have e' : 195 + j - 65 * 3 = j := by omega
  rw [ha, List.set_append_right _ _ (by rw [flat_len, h.1]; omega), flat_len, h.1, e', e]
theorem Is.putTop (h : Is w g c) (x : Nat) : Is (w.setCell ⟨g, 195, none⟩ (.int .i64 (x : Int))) g { c with top := x } := h.putTail 0 _ rfl rfl
theorem Is.putOut (h : Is w g c) (x : Int) : Is (w.setCell ⟨g, 197, none⟩ (.int .i64 x)) g { c with out := x } := h.putTail 2 _ rfl rfl
theorem Is.putTaken (h : Is w g c) (x : Int) : Is (w.setCell ⟨g, 198, none⟩ (.int .i64 x)) g { c with taken := x } := h.putTail 3 _ rfl rfl
theorem Is.drew (h : Is w g c) : Is w.drew g c := ⟨h.1, h.2⟩
theorem Is.drewN (h : Is w g c) (n : Nat) : Is (w.drewN n) g c := ⟨h.1, h.2⟩
theorem Is.alloc (h : Is w g c) (o : Obj) : Is (w.alloc o) g c := ⟨h.1, blk_alloc h.2 o⟩
theorem Is.below {w' : World} (h : Is w g c) (hb : Below w.heap.size w w') : Is w' g c := ⟨h.1, blk_below h.2 hb⟩
end
end Go.Proofs.YtpldcikmlpegpaaDoor.Col
end
section
namespace Go.Proofs.YtpldcikmlpegpaaDoor.PB
open Go.RowKit Go.Proofs.YtpldcikmlpegpaaDoorW.PrintWords Go.Proofs.YtpldcikmlpegpaaDoorW.PrintLast Go.Proofs.YtpldcikmlpegpaaDoorW.PrintMore
attribute [local go_sem] max2_int min2_int max_two min_two max_three min_three max_four min_four   -- for this text's walks alone
set_option linter.unusedVariables false
set_option linter.unusedSimpArgs false
def pack_sums.l0 : Nat → Int → Int → List (S48) → Int → Int → Option (Int × Int)
  | 0, _, _, _, _, _ => none
  | k + 1, x2, x3, x6, x7, x8 => if x8 < x7 then (if 0 ≤ x8 then (if x8 < (x6.length : Int) then (pack_sums.l0 k (wrap64 (x2 + (wrap64 (((rd_T48 x6 x8).f0) + ((rd_T48 x6 x8).f1))))) (wrap64 (x3 + ((rd_T48 x6 x8).f2))) x6 x7 (wrap64 (x8 + 1))) else (none)) else (none)) else (some (x2, x3))
def pack_sums.f (k : Nat) (l0 : List (S48)) : Option (Int × Int) := pack_sums.l0 k 0 0 l0 (l0.length : Int) 0
set_option maxHeartbeats 8000000 in
set_option maxRecDepth 100000 in
theorem pack_sums.calls (k : Nat) (A0 : Option Addr) (c0 : Nat) (l0 : List (S48)) (r1 : Int) (r2 : Int) (w : World) (hr0 : Kd.C k48 w A0 l0.length l0) (hc0 : l0.length ≤ c0) (h : pack_sums.f k l0 = some (r1, r2)) :
    Calls Tryd.prog 63 #[.slice A0 l0.length c0] w fun e w' => e = .returned (.tuple #[.int .i64 r1, .int .i64 r2]) ∧ Below w.heap.size w w' := by
  have hu48 := Tryd.underlying48
  have HR0 := Aside0.mk hr0
  have HC0 := Aside0.mk hc0
  clear hr0 hc0
  have HB := Aside0.mk (Below.refl w.heap.size w)
  have H : (pack_sums.l0 k 0 0 l0 (l0.length : Int) 0) = some (r1, r2) := h
  clear h
  have H' := Aside0.mk H
  clear H
  go_enter Tryd.func63, Tryd.ntmps63
  go_wp2
  go_loopg [2, 3, 8] k (fun kq v2 v3 v8 w' => ∃ (x2_1 : Int) (x3_1 : Int) (x8_1 : Int), v2 = .int .i64 x2_1 ∧ v3 = .int .i64 x3_1 ∧ v8 = .int .i64 x8_1 ∧ Aside0 (pack_sums.l0 kq x2_1 x3_1 l0 (l0.length : Int) x8_1 = some (r1, r2)) ∧ Aside0 (kq ≤ k) ∧ Aside0 (Below w.heap.size w w'))
  case atStart => exact ⟨(0), (0), (0), (by first | rfl | (simp; done) | (simp [*]; done)), (by first | rfl | (simp; done) | (simp [*]; done)), (by first | rfl | (simp; done) | (simp [*]; done)), H', ⟨Nat.le_refl _⟩, ⟨by repeat (first | (with_reducible first | exact HB.out | apply below_alloc | apply pw_below_drewN | apply below_drew1) | exact HB.out)⟩⟩
  case round =>
    clear H'
    obtain ⟨x2_1, x3_1, x8_1, rfl, rfl, rfl, HA, HK1, HB⟩ := hrel
    cases gk with
    | zero => exact absurd HA.out (by simp [pack_sums.l0])
    | succ k1 =>
      have H := HA.out
      clear HA
      simp only [pack_sums.l0] at H
      by_cases c2 : x8_1 < (l0.length : Int)
      · rw [if_pos c2] at H
        have c2b0 : decide (x8_1 < (l0.length : Int)) = true := decide_eq_true c2
        clear c2
        by_cases c3 : 0 ≤ x8_1
        · rw [if_pos c3] at H
          have c3b0 : decide (0 ≤ x8_1) = true := decide_eq_true c3
          clear c3
          by_cases c4 : x8_1 < (l0.length : Int)
          · rw [if_pos c4] at H
            have c4b0 : decide (x8_1 < (l0.length : Int)) = true := decide_eq_true c4
            clear c4
            have H' := Aside0.mk H
            clear H
            have p101 : 0 ≤ (x8_1 : Int) := of_decide_eq_true (by first | (with_reducible assumption) | assumption)
            have q101 : x8_1 < (l0.length : Int) := of_decide_eq_true (by first | (with_reducible assumption) | assumption)
            obtain ⟨ad101, e101, hx101_0, hx101_1, hx101_2⟩ := at_T48 HR0.out x8_1 p101 q101
            cases e101
            replace hx101_0 := (HB.out.cell (World.block_lt_of_cell? w _ hx101_0)).trans hx101_0
            replace hx101_1 := (HB.out.cell (World.block_lt_of_cell? w _ hx101_1)).trans hx101_1
            replace hx101_2 := (HB.out.cell (World.block_lt_of_cell? w _ hx101_2)).trans hx101_2
            replace p101 := eq_true p101
            replace q101 := eq_true q101
            go_wp2_with (first | ((with_reducible refine gate_dst (N := 5) rfl ?_); refine box_event ?hg (N := 5) ?hd (cs := #[.int .i64 0, .int .i64 0, .int .i64 0]) (t := 48) ?hr ?_; (case hd => rfl); (case hg => rfl); (case hr => first | (go_simp; done) | (go_simp; rfl)); intro gb102 hg w5 hbox hb; have n0_ := Aside0.mk (below_step (by repeat (first | (with_reducible first | exact HB.out | apply below_alloc | apply pw_below_drewN | apply below_drew1) | exact HB.out)) hb); have n1_ := Aside0.mk (hbox); have n2_ := Aside0.mk ((by rw [hg]; exact (below_size (by repeat (first | (with_reducible first | exact HB.out | apply below_alloc | apply pw_below_drewN | apply below_drew1) | exact HB.out))) : w.heap.size ≤ gb102)); have n3_ := Aside0.mk ((by rw [hg]; exact (below_size (by repeat (first | (with_reducible first | exact HB.out | apply below_alloc | apply pw_below_drewN | apply below_drew1) | exact HB.out))) : w.heap.size ≤ gb102)); clear HB; have HB := n0_; have BK102 := n1_; have GW102 := n2_; have GE102 := n3_; clear n0_ n1_ n2_ n3_; clear hb hbox hg; have hcz6_0 : w5.cell? ⟨gb102, 0, none⟩ = some (.int .i64 0) := (blk_cell BK102.out 0).trans rfl; have hcz6_1 : w5.cell? ⟨gb102, 1, none⟩ = some (.int .i64 0) := (blk_cell BK102.out 1).trans rfl; have hcz6_2 : w5.cell? ⟨gb102, 2, none⟩ = some (.int .i64 0) := (blk_cell BK102.out 2).trans rfl; have hfz6_0 := blk_frozen BK102.out 0; have hfz6_1 := blk_frozen BK102.out 1; have hfz6_2 := blk_frozen BK102.out 2))
            go_roundg k1
            case measure => have := HK1.out; omega
            case rel => exact ⟨(wrap64 (x2_1 + (wrap64 (((rd_T48 l0 x8_1).f0) + ((rd_T48 l0 x8_1).f1))))), (wrap64 (x3_1 + ((rd_T48 l0 x8_1).f2))), (wrap64 (x8_1 + 1)), (by first | rfl | (simp; done) | (simp [*]; done)), (by first | rfl | (simp; done) | (simp [*]; done)), (by first | rfl | (simp; done) | (simp [*]; done)), H', ⟨by have := HK1.out; omega⟩, ⟨by repeat (first | (with_reducible first | exact HB.out | apply below_alloc | apply pw_below_drewN | apply below_drew1 | refine below_set ?_ GE102.out) | exact HB.out)⟩⟩
          · rw [if_neg c4] at H
            exact absurd H (by simp)
        · rw [if_neg c3] at H
          exact absurd H (by simp)
      · rw [if_neg c2] at H
        have c2b0 : decide (x8_1 < (l0.length : Int)) = false := decide_eq_false c2
        clear c2
        simp only [Option.some.injEq, Prod.mk.injEq] at H
        obtain ⟨rfl, rfl⟩ := H
        go_wp2
        go_ret2
        exact ⟨by first | rfl | (simp [errW_none, errW_some] <;> rfl) | (simp [*, errW_none, errW_some] <;> rfl), by repeat (first | (with_reducible first | exact HB.out | apply below_alloc | apply pw_below_drewN | apply below_drew1) | exact HB.out)⟩
def pack_hold.f (a0_0 : Int) (a0_1 : Int) (a0_2 : Int) : Option (Int) := some (wrap64 (Int.tdiv a0_0 20))
set_option maxHeartbeats 8000000 in
set_option maxRecDepth 100000 in
theorem pack_hold.calls (a0_0 : Int) (a0_1 : Int) (a0_2 : Int) (r : Int) (w : World) (h : pack_hold.f a0_0 a0_1 a0_2 = some r) :
    Calls Tryd.prog 65 #[.agg #[.int .i64 a0_0, .int .i64 a0_1, .int .i64 a0_2]] w fun e w' => e = .returned (.int .i64 r) ∧ Below w.heap.size w w' := by
  have hu48 := Tryd.underlying48
  have HB := Aside0.mk (Below.refl w.heap.size w)
  have H : (some (wrap64 (Int.tdiv a0_0 20))) = some r := h
  clear h
  obtain rfl := Option.some.inj H
  go_enter Tryd.func65, Tryd.ntmps65
  go_wp2_with (first | ((with_reducible refine gate_dst (N := 1) rfl ?_); refine box_event ?hg (N := 1) ?hd (cs := #[.int .i64 a0_0, .int .i64 a0_1, .int .i64 a0_2]) (t := 48) ?hr ?_; (case hd => rfl); (case hg => rfl); (case hr => first | (go_simp; done) | (go_simp; rfl)); intro gb103 hg w2 hbox hb; have n0_ := Aside0.mk (below_step (by repeat (first | (with_reducible first | exact HB.out | apply below_alloc | apply pw_below_drewN | apply below_drew1) | exact HB.out)) hb); have n1_ := Aside0.mk (hbox); have n2_ := Aside0.mk ((by rw [hg]; exact (below_size (by repeat (first | (with_reducible first | exact HB.out | apply below_alloc | apply pw_below_drewN | apply below_drew1) | exact HB.out))) : w.heap.size ≤ gb103)); have n3_ := Aside0.mk ((by rw [hg]; exact (below_size (by repeat (first | (with_reducible first | exact HB.out | apply below_alloc | apply pw_below_drewN | apply below_drew1) | exact HB.out))) : w.heap.size ≤ gb103)); clear HB; have HB := n0_; have BK103 := n1_; have GW103 := n2_; have GE103 := n3_; clear n0_ n1_ n2_ n3_; clear hb hbox hg; have hcz3_0 : w2.cell? ⟨gb103, 0, none⟩ = some (.int .i64 a0_0) := (blk_cell BK103.out 0).trans rfl; have hcz3_1 : w2.cell? ⟨gb103, 1, none⟩ = some (.int .i64 a0_1) := (blk_cell BK103.out 1).trans rfl; have hcz3_2 : w2.cell? ⟨gb103, 2, none⟩ = some (.int .i64 a0_2) := (blk_cell BK103.out 2).trans rfl; have hfz3_0 := blk_frozen BK103.out 0; have hfz3_1 := blk_frozen BK103.out 1; have hfz3_2 := blk_frozen BK103.out 2))
  go_ret
  exact ⟨by first | rfl | (simp [errW_none, errW_some] <;> rfl) | (simp [*, errW_none, errW_some] <;> rfl), by repeat (first | (with_reducible first | exact HB.out | apply below_alloc | apply pw_below_drewN | apply below_drew1 | refine below_set ?_ GE103.out) | exact HB.out)⟩
def pack_from.f (a0 : Int) (a1 : Int) (a2 : Int) : Option (Bool) := if a0 ≥ a1 then (some (decide (a0 ≤ a2))) else (some false)
set_option maxHeartbeats 8000000 in
set_option maxRecDepth 100000 in
theorem pack_from.calls (a0 : Int) (a1 : Int) (a2 : Int) (r : Bool) (w : World) (h : pack_from.f a0 a1 a2 = some r) :
    Calls Tryd.prog 67 #[.int .i64 a0, .int .i64 a1, .int .i64 a2] w fun e w' => e = .returned (.bool r) ∧ Drawn0 w w' := by
  have H : (if a0 ≥ a1 then (some (decide (a0 ≤ a2))) else (some false)) = some r := h
  clear h
  by_cases c4 : a0 ≥ a1
  · rw [if_pos c4] at H
    have c4b0 : decide (a1 ≤ a0) = true := decide_eq_true c4
    clear c4
    obtain rfl := Option.some.inj H
    go_enter Tryd.func67, Tryd.ntmps67
    go_wp2
    go_ret
    exact ⟨by first | rfl | (simp; done) | (simp [*]; done), by repeat (first | exact Drawn0.refl _ | apply Drawn0.step)⟩
  · rw [if_neg c4] at H
    have c4b0 : decide (a1 ≤ a0) = false := decide_eq_false c4
    clear c4
    obtain rfl := Option.some.inj H
    go_enter Tryd.func67, Tryd.ntmps67
    go_wp2
    go_ret
    exact ⟨by first | rfl | (simp; done) | (simp [*]; done), by repeat (first | exact Drawn0.refl _ | apply Drawn0.step)⟩
end Go.Proofs.YtpldcikmlpegpaaDoor.PB
end
section
namespace Go.Proofs.YtpldcikmlpegpaaDoor.Col
open Go.RowKit Go.Proofs.YtpldcikmlpegpaaDoor.PB Go.Proofs.YtpldcikmlpegpaaDoorW.PrintWords Go.Proofs.YtpldcikmlpegpaaDoorW.PrintLast Go.Proofs.YtpldcikmlpegpaaDoorW.PrintMore
attribute [local go_sem] max2_int min2_int max_two min_two
def stepW (l : S48) (m : Int) : S48 × Int :=
  let fr := mn m l.f2
  let ice := wrap64 (l.f0 + fr)
  let m1 := wrap64 (m - fr)
  let kept := mn m1 (wrap64 (wrap64 (Int.tdiv ice 20) - l.f1))
  (⟨ice, wrap64 (l.f1 + kept), wrap64 (l.f2 - fr)⟩, wrap64 (m1 - kept))
def flowAt : Nat → List S48 → Nat → Int → List S48 × Int
  | 0, a, _, m => (a, m)
  | d + 1, a, i, m => if 0 < m then flowAt d (a.set i (stepW (a.getD i z48) m).1) (i + 1) (stepW (a.getD i z48) m).2 else (a, m)
theorem getD_set_self (a : List S48) (j : Nat) (y : S48) (h : j < a.length) : (a.set j y).getD j z48 = y := by
  simp [List.getD_eq_getElem?_getD, h]
theorem keepL {W0 w' : World} {g k : Nat} {a b c : Value} (h0 : W0.cell? ⟨g, k, none⟩ = some a) (h1 : W0.cell? ⟨g, k + 1, none⟩ = some b) (h2 : W0.cell? ⟨g, k + 2, none⟩ = some c) (hb : Below W0.heap.size W0 w') :
    w'.cell? ⟨g, k, none⟩ = some a ∧ w'.cell? ⟨g, k + 1, none⟩ = some b ∧ w'.cell? ⟨g, k + 2, none⟩ = some c ∧ Below W0.heap.size W0 w' :=
  ⟨pw_cell_below hb h0, pw_cell_below hb h1, pw_cell_below hb h2, hb⟩
set_option maxHeartbeats 1000000 in
theorem flow_calls (w : World) (g : Nat) (c : C) (i nn : Nat) (m : Int) (h : Is w g c) (hn : c.n = nn) (hn65 : nn ≤ 65) (hi : i ≤ nn) :
    Calls Tryd.prog 88 #[.pointer (some ⟨g, 0, none⟩), .int .i64 i, .int .i64 m] w fun e w' => e = .returned (.tuple #[]) ∧
      Is w' g { c with at_ := (flowAt (nn - i) c.at_ i m).1, out := wrap64 (c.out + (flowAt (nn - i) c.at_ i m).2) } ∧ KeepG g w w' := by
  have hu := Tryd.underlying48
  have HI := Aside0.mk h
  have HN := Aside0.mk hn
  clear h hn
  go_enter Tryd.func88, Tryd.ntmps88
  go_wp2
  go_loopg [1, 2] (nn - i) (fun dq v1 v2 w' => ∃ (j : Nat) (q : Int) (a : List S48), v1 = .int .i64 j ∧ v2 = .int .i64 q ∧ j ≤ nn ∧ dq = nn - j ∧ Aside0 (flowAt dq a j q = flowAt (nn - i) c.at_ i m) ∧ Aside0 (Is w' g { c with at_ := a }) ∧ Aside0 (KeepG g w w'))
  case atStart => exact ⟨i, m, c.at_, rfl, rfl, hi, rfl, ⟨rfl⟩, HI, ⟨KeepG.refl _ _⟩⟩
  case round =>
    obtain ⟨j, q, a, rfl, rfl, hj, hd, HE, HC, HK⟩ := hrel
    by_cases hb : j < nn ∧ 0 < q
    · obtain ⟨hj1, hq1⟩ := hb
      have t1 : decide (j < nn) = true := decide_eq_true hj1
      have t2 : decide (0 < q) = true := decide_eq_true hq1
      have b1 : j < 65 := by omega
      have hcn : wr.cell? ⟨g, 196, none⟩ = some (.int .i64 (nn : Int)) := by have := HC.out.n; rw [HN.out] at this; exact this
      have hc0 := HC.out.ice j b1
      have hc1 := HC.out.wet j b1
      have hc2 := HC.out.cold j b1
      have hf := HC.out.free
      obtain ⟨l, hl⟩ : ∃ l, l = a.getD j z48 := ⟨_, rfl⟩
      simp only [← hl] at hc0 hc1 hc2
      have HL := Aside0.mk hl
      clear hl
      obtain ⟨fr, hfr⟩ : ∃ fr, (if l.f2 < q then l.f2 else q) = fr := ⟨_, rfl⟩
      go_wp2
      have HFR : Aside0 (mn q l.f2 = fr) := ⟨hfr⟩
      clear hfr
      obtain ⟨W2, hW2⟩ : ∃ W2, (wr.setCell ⟨g, j * 3, none⟩ (.int .i64 (wrap64 (l.f0 + fr)))).setCell ⟨g, j * 3 + 2, none⟩ (.int .i64 (wrap64 (l.f2 - fr))) = W2 := ⟨_, rfl⟩
      rw [hW2]
      have HC2 : Aside0 (Is W2 g { c with at_ := a.set j ⟨wrap64 (l.f0 + fr), l.f1, wrap64 (l.f2 - fr)⟩ }) := by
        have hlen := HC.out.1
        have := (HC.out.putIce j b1 (wrap64 (l.f0 + fr))).putCold j b1 (wrap64 (l.f2 - fr))
        rw [hW2] at this
        refine ⟨?_⟩
        simpa [List.getD_eq_getElem?_getD, List.getElem?_set_self, show j < a.length by simpa [hlen] using b1, List.set_set, HL.out] using this
      have HK2 : Aside0 (KeepG g w W2) := ⟨by rw [← hW2]; exact (HK.out.trans (KeepG.set _ _ _ _)).trans (KeepG.set _ _ _ _)⟩
      have hla : j < a.length := by have := HC.out.1; dsimp only at this; omega
      have k0 : W2.cell? ⟨g, j * 3, none⟩ = some (.int .i64 (wrap64 (l.f0 + fr))) := by have := HC2.out.ice j b1; rwa [getD_set_self _ _ _ hla] at this
      have k1 : W2.cell? ⟨g, j * 3 + 1, none⟩ = some (.int .i64 l.f1) := by have := HC2.out.wet j b1; rwa [getD_set_self _ _ _ hla] at this
      have k2 : W2.cell? ⟨g, j * 3 + 2, none⟩ = some (.int .i64 (wrap64 (l.f2 - fr))) := by have := HC2.out.cold j b1; rwa [getD_set_self _ _ _ hla] at this
      clear hc0 hc1 hc2 hf hcn hW2
      go_region_held3 (fun w' => w'.cell? ⟨g, j * 3, none⟩ = some (.int .i64 (wrap64 (l.f0 + fr))) ∧ w'.cell? ⟨g, j * 3 + 1, none⟩ = some (.int .i64 l.f1) ∧ w'.cell? ⟨g, j * 3 + 2, none⟩ = some (.int .i64 (wrap64 (l.f2 - fr))) ∧ Below W2.heap.size W2 w')
        ((go_split_ands; refine keepL k0 k1 k2 ?_; first | assumption | exact (Below.refl _ _).drew | exact below_step (by assumption) (by assumption)))
        (first | (go_at_call 65; refine (pack_hold.calls _ _ _ _ _ rfl).mono ?_; rintro e w' ⟨rfl, hb⟩))
      rename_i hHeld
      obtain ⟨c0, c1, c2, hB⟩ := hHeld
      have HC3 := Aside0.mk (HC2.out.below hB)
      have HK3 := Aside0.mk (HK2.out.trans (KeepG.of_below hB))
      clear hb hB k0 k1 k2 c0 c2 HC2 HK2 HC HK
      obtain ⟨kp, hkp⟩ : ∃ kp, (if wrap64 (wrap64 ((wrap64 (l.f0 + fr)).tdiv 20) - l.f1) < wrap64 (q - fr) then wrap64 (wrap64 ((wrap64 (l.f0 + fr)).tdiv 20) - l.f1) else wrap64 (q - fr)) = kp := ⟨_, rfl⟩
      simp only [i64_w]
      rw [hkp]
      have HKP : Aside0 (mn (wrap64 (q - fr)) (wrap64 (wrap64 ((wrap64 (l.f0 + fr)).tdiv 20) - l.f1)) = kp) := ⟨hkp⟩
      clear hkp
      have hf := HC3.out.free
      go_wp2
      go_roundg (nn - (j + 1))
      case measure => omega
      case rel =>
        refine ⟨j + 1, wrap64 (wrap64 (q - fr) - kp), a.set j ⟨wrap64 (l.f0 + fr), wrap64 (l.f1 + kp), wrap64 (l.f2 - fr)⟩, by go_num, rfl, by omega, rfl, ⟨?_⟩, ⟨?_⟩, ⟨HK3.out.trans (KeepG.set _ _ _ _)⟩⟩
        · have e : nn - j = (nn - (j + 1)) + 1 := by omega
          rw [← HE.out, hd, e]
          simp only [flowAt, if_pos hq1, stepW, ← HL.out, HFR.out, HKP.out]
        · have := HC3.out.putWet j b1 (wrap64 (l.f1 + kp))
          rw [getD_set_self _ _ _ hla] at this
          simpa [List.set_set] using this
    · have hend : flowAt gk a j q = (a, q) := by
        cases gk with
        | zero => rfl
        | succ d =>
          have : ¬ 0 < q := fun h => hb ⟨by omega, h⟩
          simp [flowAt, this]
      have HF := Aside0.mk (hend.symm.trans HE.out)
      clear hend HE
      have hcn : wr.cell? ⟨g, 196, none⟩ = some (.int .i64 (nn : Int)) := by have := HC.out.n; rw [HN.out] at this; exact this
      have hco := HC.out.out
      have hf := HC.out.free
      by_cases h1 : j < nn
      · have t1 : decide (j < nn) = true := decide_eq_true h1
        have t2 : decide (0 < q) = false := decide_eq_false (fun h => hb ⟨h1, h⟩)
        clear hb
        go_wp2
        go_end0
        exact ⟨rfl, by rw [← HF.out]; exact HC.out.putOut _, HK.out.trans (KeepG.set _ _ _ _)⟩
      · have t1 : decide (j < nn) = false := decide_eq_false h1
        clear hb
        go_wp2
        go_end0
        exact ⟨rfl, by rw [← HF.out]; exact HC.out.putOut _, HK.out.trans (KeepG.set _ _ _ _)⟩
theorem flow_calls' (w : World) (g : Nat) (c : C) (I : Int) (i : Nat) (m : Int) (hI : I = (i : Int)) (h : Is w g c) (hn65 : c.n ≤ 65) (hi : i ≤ c.n) :
    Calls Tryd.prog 88 #[.pointer (some ⟨g, 0, none⟩), .int .i64 I, .int .i64 m] w fun e w' => e = .returned (.tuple #[]) ∧
      Is w' g { c with at_ := (flowAt (c.n - i) c.at_ i m).1, out := wrap64 (c.out + (flowAt (c.n - i) c.at_ i m).2) } ∧ KeepG g w w' := by
  subst hI
  exact flow_calls w g c i c.n m h rfl hn65 hi
end Go.Proofs.YtpldcikmlpegpaaDoor.Col
end
section
namespace Go.Proofs.YtpldcikmlpegpaaDoor.Col
open Go.RowKit Go.Proofs.YtpldcikmlpegpaaDoor.PB Go.Proofs.YtpldcikmlpegpaaDoorW.PrintWords Go.Proofs.YtpldcikmlpegpaaDoorW.PrintLast Go.Proofs.YtpldcikmlpegpaaDoorW.PrintMore
attribute [local go_sem] max2_int min2_int max_two min_two
def loseW (l : S48) (more : Int) : S48 × Int :=
  (⟨wrap64 (l.f0 - 1), mn (wrap64 (l.f1 + more)) (wrap64 ((wrap64 (l.f0 - 1)).tdiv 20)), l.f2⟩, wrap64 (wrap64 (l.f1 + more) - mn (wrap64 (l.f1 + more)) (wrap64 ((wrap64 (l.f0 - 1)).tdiv 20))))
def C.lose (c : C) (more : Int) : C :=
  let l := c.at_.getD c.top z48
  let r := flowAt (c.n - (c.top + 1)) (c.at_.set c.top (loseW l more).1) (c.top + 1) (loseW l more).2
  { c with at_ := r.1, top := if wrap64 (l.f0 - 1) = 0 then c.top + 1 else c.top, out := wrap64 (c.out + r.2) }
set_option maxRecDepth 100000 in
set_option maxHeartbeats 1000000 in
theorem lose_calls (w : World) (g : Nat) (c : C) (more : Int) (h : Is w g c) (hn65 : c.n ≤ 65) (ht : c.top < c.n) :
    Calls Tryd.prog 93 #[.pointer (some ⟨g, 0, none⟩), .int .i64 more] w fun e w' => e = .returned (.tuple #[]) ∧ Is w' g (c.lose more) ∧ KeepG g w w' := by
  have hu := Tryd.underlying48
  have HI := Aside0.mk h
  clear h
  obtain ⟨t, hct⟩ : ∃ t, c.top = t := ⟨_, rfl⟩
  have b1 : t < 65 := by omega
  obtain ⟨l, hl⟩ : ∃ l, l = c.at_.getD t z48 := ⟨_, rfl⟩
  have hla : t < c.at_.length := by have := HI.out.1; omega
  have htop := HI.out.top
  have hc0 := HI.out.ice t b1
  have hc1 := HI.out.wet t b1
  have hc2 := HI.out.cold t b1
  have hf := HI.out.free
  rw [hct] at htop
  simp only [← hl] at hc0 hc1 hc2
  have HL := Aside0.mk hl
  have HT := Aside0.mk hct
  have HN := Aside0.mk hn65
  have HTN := Aside0.mk ht
  clear hl hct hn65 ht
  go_enter Tryd.func93, Tryd.ntmps93
  go_wp2
  go_quiet (fail)
  go_upto_region 4 with (first | (go_at_call 65; refine (pack_hold.calls _ _ _ _ _ rfl).mono ?_; rintro e w1 ⟨rfl, hb⟩; have HC1 := Aside0.mk (((HI.out.drewN nq).putIce t b1 (wrap64 (l.f0 - 1))).below hb); have HK1 := Aside0.mk (((KeepG.drewN g w nq).trans (KeepG.set _ _ _ _)).trans (KeepG.of_below hb)); have hf1 := HC1.out.free; have hc3 := HC1.out.wet t b1; clear hb htop hf hc0 hc1 hc2))
  obtain ⟨ice, hice⟩ : ∃ x, wrap64 (l.f0 - 1) = x := ⟨_, rfl⟩
  obtain ⟨liq, hliq⟩ : ∃ x, wrap64 (l.f1 + more) = x := ⟨_, rfl⟩
  simp only [hice, hliq] at HC1 ⊢
  obtain ⟨wt, hwt⟩ : ∃ x, (if wrap64 (ice.tdiv 20) < liq then wrap64 (ice.tdiv 20) else liq) = x := ⟨_, rfl⟩
  rw [hwt]
  obtain ⟨W2, hW2⟩ : ∃ W2, w1.setCell ⟨g, t * 3 + 1, none⟩ (.int .i64 wt) = W2 := ⟨_, rfl⟩
  rw [hW2]
  have HC2 : Aside0 (Is W2 g { c with at_ := c.at_.set t ⟨ice, wt, l.f2⟩ }) := by
    have := HC1.out.putWet t b1 wt
    rw [hW2, getD_set_self _ _ _ hla] at this
    refine ⟨?_⟩
    simpa [List.set_set, HL.out] using this
  have HK2 : Aside0 (KeepG g w W2) := ⟨by rw [← hW2]; exact HK1.out.trans (KeepG.set _ _ _ _)⟩
  have HLW : Aside0 (loseW l more = (⟨ice, wt, l.f2⟩, wrap64 (liq - wt))) := ⟨by
    have : mn liq (wrap64 (ice.tdiv 20)) = wt := hwt
    simp only [loseW, hice, hliq, this]⟩
  have HICE := Aside0.mk hice
  clear hice hliq hwt hW2 hf1 hc3 HC1 HK1
  have c0 : W2.cell? ⟨g, t * 3, none⟩ = some (.int .i64 ice) := by have := HC2.out.ice t b1; rwa [getD_set_self _ _ _ hla] at this
  have c1 : W2.cell? ⟨g, t * 3 + 1, none⟩ = some (.int .i64 wt) := by have := HC2.out.wet t b1; rwa [getD_set_self _ _ _ hla] at this
  have htop : W2.cell? ⟨g, 195, none⟩ = some (.int .i64 (t : Int)) := by have := HC2.out.top; rw [← HT.out]; exact this
  have hf := HC2.out.free
  by_cases hz : ice = 0
  · have z0 : (ice == 0) = true := by simp [hz]
    have HZ := Aside0.mk hz
    clear hz
    go_upto_region 8 with (fail)
    obtain ⟨W3, hW3⟩ : ∃ W3, W2.setCell ⟨g, 195, none⟩ (.int .i64 ((t : Int) + 1)) = W3 := ⟨_, rfl⟩
    rw [hW3]
    have HC3 : Aside0 (Is W3 g { c with at_ := c.at_.set t ⟨ice, wt, l.f2⟩, top := t + 1 }) := ⟨by rw [← hW3]; exact HC2.out.putTop (t + 1)⟩
    have HK3 : Aside0 (KeepG g w W3) := ⟨by rw [← hW3]; exact HK2.out.trans (KeepG.set _ _ _ _)⟩
    clear hW3 htop c0 c1 hf HC2 HK2
    go_wp2_with (first | (go_at_call 88; refine (flow_calls' _ g { c with at_ := c.at_.set t ⟨ice, wt, l.f2⟩, top := t + 1 } _ (t + 1) _ (by omega) HC3.out HN.out (by have := HTN.out; have := HT.out; simp only []; omega)).mono ?_; rintro e w4 ⟨rfl, hI4, hK4⟩; have HI4 := Aside0.mk hI4; have HK4 := Aside0.mk hK4; clear hI4 hK4))
    go_end0
    refine ⟨rfl, ?_, HK3.out.trans HK4.out⟩
    have e := HI4.out
    simp only [C.lose, HT.out, ← HL.out, HLW.out, HICE.out, HZ.out, if_true]
    rw [HZ.out] at e
    exact e
  · have z0 : (ice == 0) = false := by simp [hz]
    have HZ := Aside0.mk hz
    clear hz
    go_upto_region 8 with (fail)
    clear htop c0 c1 hf
    go_wp2_with (first | (go_at_call 88; refine (flow_calls' _ g { c with at_ := c.at_.set t ⟨ice, wt, l.f2⟩ } _ (t + 1) _ (by omega) HC2.out HN.out (by have := HTN.out; have := HT.out; simp only []; omega)).mono ?_; rintro e w4 ⟨rfl, hI4, hK4⟩; have HI4 := Aside0.mk hI4; have HK4 := Aside0.mk hK4; clear hI4 hK4))
    go_end0
    refine ⟨rfl, ?_, HK2.out.trans HK4.out⟩
    have e := HI4.out
    simp only [HT.out] at e
    simp only [C.lose, HT.out, ← HL.out, HLW.out, HICE.out, if_neg HZ.out]
    exact e
def C.melt (c : C) : C :=
  let l := c.at_.getD c.top z48
  if 0 < l.f2 then { c with at_ := c.at_.set c.top ⟨l.f0, l.f1, wrap64 (l.f2 - 1)⟩ } else c.lose 1
def C.vanish (c : C) : C := { c.lose 0 with taken := wrap64 (c.taken + 1) }
set_option maxRecDepth 100000 in
set_option maxHeartbeats 1000000 in
theorem vanish_calls (w : World) (g : Nat) (c : C) (h : Is w g c) (hn65 : c.n ≤ 65) (ht : c.top < c.n) :
    Calls Tryd.prog 74 #[.pointer (some ⟨g, 0, none⟩)] w fun e w' => e = .returned (.tuple #[]) ∧ Is w' g c.vanish ∧ KeepG g w w' := by
  have HI := Aside0.mk h
  have HN := Aside0.mk hn65
  have HT := Aside0.mk ht
  clear h hn65 ht
  go_enter Tryd.func74, Tryd.ntmps74
  go_wp2_with (first | (go_at_call 93; refine (lose_calls _ g c 0 HI.out HN.out HT.out).mono ?_; rintro e w4 ⟨rfl, hI4, hK4⟩; have hcc : w4.cell? ⟨g, 198, none⟩ = some (.int .i64 c.taken) := hI4.taken; have hff := hI4.free; have HI4 := Aside0.mk hI4; have HK4 := Aside0.mk hK4; clear hI4 hK4))
  go_end0
  exact ⟨rfl, HI4.out.putTaken _, HK4.out.trans (KeepG.set _ _ _ _)⟩
set_option maxRecDepth 100000 in
set_option maxHeartbeats 1000000 in
theorem melt_calls (w : World) (g : Nat) (c : C) (h : Is w g c) (hn65 : c.n ≤ 65) (ht : c.top < c.n) :
    Calls Tryd.prog 85 #[.pointer (some ⟨g, 0, none⟩)] w fun e w' => e = .returned (.tuple #[]) ∧ Is w' g c.melt ∧ KeepG g w w' := by
  have HI := Aside0.mk h
  obtain ⟨t, hct⟩ : ∃ t, c.top = t := ⟨_, rfl⟩
  have b1 : t < 65 := by omega
  obtain ⟨l, hl⟩ : ∃ l, l = c.at_.getD t z48 := ⟨_, rfl⟩
  have htop := HI.out.top
  have hc2 := HI.out.cold t b1
  have hf := HI.out.free
  rw [hct] at htop
  simp only [← hl] at hc2
  have HL := Aside0.mk hl
  have HT := Aside0.mk hct
  have HN := Aside0.mk hn65
  have HTN := Aside0.mk ht
  clear hl hct hn65 ht h
  by_cases hz : 0 < l.f2
  · have z0 : decide (0 < l.f2) = true := decide_eq_true hz
    have HZ := Aside0.mk hz
    clear hz
    go_enter Tryd.func85, Tryd.ntmps85
    go_wp2
    go_quiet (fail)
    go_wp2
    refine bodyPost_ret (v := .tuple #[]) (results_none rfl _ _ _) rfl ⟨rfl, ?_, (KeepG.drewN g w nq).trans (KeepG.set _ _ _ _)⟩
    have e := (HI.out.drewN nq).putCold t b1 (wrap64 (l.f2 - 1))
    simp only [C.melt, HT.out, ← HL.out, if_pos HZ.out]
    simp only [HT.out, ← HL.out] at e
    exact e
  · have z0 : decide (0 < l.f2) = false := decide_eq_false hz
    have HZ := Aside0.mk hz
    clear hz
    go_enter Tryd.func85, Tryd.ntmps85
    go_wp2
    go_quiet (fail)
    go_wp2_with (first | (go_at_call 93; refine (lose_calls _ g c 1 (HI.out.drewN nq) HN.out HTN.out).mono ?_; rintro e w4 ⟨rfl, hI4, hK4⟩; have HI4 := Aside0.mk hI4; have HK4 := Aside0.mk hK4; clear hI4 hK4))
    go_end0
    refine ⟨rfl, ?_, (KeepG.drewN g w nq).trans HK4.out⟩
    have e := HI4.out
    simp only [C.melt, HT.out, ← HL.out, if_neg (show ¬ 0 < l.f2 by have := HZ.out; omega)]
    exact e
end Go.Proofs.YtpldcikmlpegpaaDoor.Col
end
section
namespace Go.Proofs.YtpldcikmlpegpaaDoor.Col
open Go.RowKit Go.Proofs.YtpldcikmlpegpaaDoor.PB Go.Proofs.YtpldcikmlpegpaaDoorW.PrintWords Go.Proofs.YtpldcikmlpegpaaDoorW.PrintLast Go.Proofs.YtpldcikmlpegpaaDoorW.PrintMore
attribute [local go_sem] max2_int min2_int max_two min_two
def C.times (f : C → C) : Nat → C → C
  | 0, c => c
  | k + 1, c => if c.top = c.n then c else C.times f k (f c)
structure RoundC (f : C → C) : Prop where
  n : ∀ c, (f c).n = c.n
  top : ∀ c, c.top < c.n → (f c).top ≤ c.n
theorem lose_top (c : C) (m : Int) (h : c.top < c.n) : (c.lose m).top ≤ c.n := by
  unfold C.lose
  simp only []
  split <;> omega
theorem vanish_roundC : RoundC C.vanish := ⟨fun _ => rfl, fun c h => lose_top c 0 h⟩
theorem melt_roundC : RoundC C.melt := ⟨fun c => by unfold C.melt; simp only []; split <;> rfl, fun c h => by
  unfold C.melt; simp only []
  split
  · exact Nat.le_of_lt h
  · exact lose_top c 1 h⟩
set_option maxRecDepth 100000 in
set_option maxHeartbeats 1000000 in
theorem times_melt (w : World) (g : Nat) (c : C) (m : Int) (h : Is w g c) (hn65 : c.n ≤ 65) (ht : c.top ≤ c.n) (hm : m ≤ 9223372036854775807) :
    Calls Tryd.prog 73 #[.pointer (some ⟨g, 0, none⟩), .int .i64 m, .func (.func 85) #[.pointer (some ⟨g, 0, none⟩)] #[]] w fun e w' => e = .returned (.tuple #[]) ∧ Is w' g (C.times C.melt m.toNat c) ∧ KeepG g w w' := by
  have HI := Aside0.mk h
  have HN := Aside0.mk hn65
  have HT := Aside0.mk ht
  clear h hn65 ht
  go_enter Tryd.func73, Tryd.ntmps73
  go_wp2
  go_loopg [7] m.toNat (fun dq v7 w' => ∃ (j : Nat) (d : C), v7 = .int .i64 j ∧ dq = m.toNat - j ∧ j ≤ m.toNat ∧ d.top ≤ c.n ∧ Aside0 (d.n = c.n) ∧ Aside0 (C.times C.melt dq d = C.times C.melt m.toNat c) ∧ Aside0 (Is w' g d) ∧ Aside0 (KeepG g w w'))
  case atStart => exact ⟨0, c, rfl, rfl, Nat.zero_le _, HT.out, ⟨rfl⟩, ⟨rfl⟩, HI, ⟨KeepG.refl _ _⟩⟩
  case round =>
    obtain ⟨j, d, rfl, hd, hj, hdt, HDN, HE, HD, HK⟩ := hrel
    have hf := HD.out.free
    have htop := HD.out.top
    have hnn := HD.out.n
    rw [HDN.out] at hnn
    by_cases hlt : (j : Int) < m
    · have t1 : decide ((j : Int) < m) = true := decide_eq_true hlt
      have hj3 : (j : Int) < 9223372036854775807 := by omega
      have HLT := Aside0.mk hlt
      clear hlt
      obtain ⟨nn, hcn⟩ : ∃ nn, c.n = nn := ⟨_, rfl⟩
      obtain ⟨tt, hct⟩ : ∃ tt, d.top = tt := ⟨_, rfl⟩
      rw [hcn] at hnn
      rw [hct] at htop
      go_upto_region 2 with (fail)
      by_cases he : tt = nn
      · have z0 : ((tt : Int) == (nn : Int)) = true := by simp [he]
        have HE2 := Aside0.mk he
        clear he
        go_quiet (fail)
        go_wp2
        refine bodyPost_ret (v := .tuple #[]) (results_none rfl _ _ _) rfl ⟨rfl, ?_, HK.out.trans (KeepG.drewN _ _ _)⟩
        have e : C.times C.melt gk d = d := by
          cases gk with
          | zero => rfl
          | succ k => simp only [C.times, hct, HDN.out, hcn, HE2.out, if_true]
        rw [← HE.out, e]
        exact HD.out.drewN _
      · have z0 : ((tt : Int) == (nn : Int)) = false := by simp; omega
        have HE2 := Aside0.mk he
        clear he
        have HLT2 : Aside0 (tt < nn) := ⟨by have := HE2.out; omega⟩
        have HN' : Aside0 (d.n ≤ 65) := ⟨by rw [HDN.out]; exact HN.out⟩
        have HT' : Aside0 (d.top < d.n) := ⟨by rw [HDN.out, hct, hcn]; exact HLT2.out⟩
        have HCT := Aside0.mk hct
        have HCN := Aside0.mk hcn
        clear hct hcn
        go_quiet (fail)
        clear hnn htop hf
        go_wp2_with (first | (go_at_call 85; refine (melt_calls _ g d (HD.out.drewN nq) HN'.out HT'.out).mono ?_; rintro e w4 ⟨rfl, hI4, hK4⟩; have HI4 := Aside0.mk hI4; have HK4 := Aside0.mk hK4; clear hI4 hK4))
        go_roundg (m.toNat - (j + 1))
        case measure => have := HLT.out; omega
        case rel =>
          refine ⟨j + 1, d.melt, by first | go_num | rfl, rfl, by have := HLT.out; omega, ?_, ⟨?_⟩, ⟨?_⟩, HI4, ⟨(HK.out.trans (KeepG.drewN _ _ _)).trans HK4.out⟩⟩
          · rw [← HDN.out]; exact melt_roundC.top d HT'.out
          · rw [melt_roundC.n]; exact HDN.out
          · have e : gk = (m.toNat - (j + 1)) + 1 := by have := HLT.out; omega
            rw [← HE.out, e]
            simp only [C.times, if_neg (Nat.ne_of_lt HT'.out)]
    · have t1 : decide ((j : Int) < m) = false := decide_eq_false hlt
      have HLT := Aside0.mk hlt
      clear hlt
      go_wp2
      go_end0
      have e : gk = 0 := by have := HLT.out; omega
      refine ⟨rfl, ?_, HK.out⟩
      rw [← HE.out, e]
      exact HD.out
set_option maxRecDepth 100000 in
set_option maxHeartbeats 1000000 in
theorem times_vanish (w : World) (g : Nat) (c : C) (m : Int) (h : Is w g c) (hn65 : c.n ≤ 65) (ht : c.top ≤ c.n) (hm : m ≤ 9223372036854775807) :
    Calls Tryd.prog 73 #[.pointer (some ⟨g, 0, none⟩), .int .i64 m, .func (.func 74) #[.pointer (some ⟨g, 0, none⟩)] #[]] w fun e w' => e = .returned (.tuple #[]) ∧ Is w' g (C.times C.vanish m.toNat c) ∧ KeepG g w w' := by
  have HI := Aside0.mk h
  have HN := Aside0.mk hn65
  have HT := Aside0.mk ht
  clear h hn65 ht
  go_enter Tryd.func73, Tryd.ntmps73
  go_wp2
  go_loopg [7] m.toNat (fun dq v7 w' => ∃ (j : Nat) (d : C), v7 = .int .i64 j ∧ dq = m.toNat - j ∧ j ≤ m.toNat ∧ d.top ≤ c.n ∧ Aside0 (d.n = c.n) ∧ Aside0 (C.times C.vanish dq d = C.times C.vanish m.toNat c) ∧ Aside0 (Is w' g d) ∧ Aside0 (KeepG g w w'))
  case atStart => exact ⟨0, c, rfl, rfl, Nat.zero_le _, HT.out, ⟨rfl⟩, ⟨rfl⟩, HI, ⟨KeepG.refl _ _⟩⟩
  case round =>
    obtain ⟨j, d, rfl, hd, hj, hdt, HDN, HE, HD, HK⟩ := hrel
    have hf := HD.out.free
    have htop := HD.out.top
    have hnn := HD.out.n
    rw [HDN.out] at hnn
    by_cases hlt : (j : Int) < m
    · have t1 : decide ((j : Int) < m) = true := decide_eq_true hlt
      have hj3 : (j : Int) < 9223372036854775807 := by omega
      have HLT := Aside0.mk hlt
      clear hlt
      obtain ⟨nn, hcn⟩ : ∃ nn, c.n = nn := ⟨_, rfl⟩
      obtain ⟨tt, hct⟩ : ∃ tt, d.top = tt := ⟨_, rfl⟩
      rw [hcn] at hnn
      rw [hct] at htop
      go_upto_region 2 with (fail)
      by_cases he : tt = nn
      · have z0 : ((tt : Int) == (nn : Int)) = true := by simp [he]
        have HE2 := Aside0.mk he
        clear he
        go_quiet (fail)
        go_wp2
        refine bodyPost_ret (v := .tuple #[]) (results_none rfl _ _ _) rfl ⟨rfl, ?_, HK.out.trans (KeepG.drewN _ _ _)⟩
        have e : C.times C.vanish gk d = d := by
          cases gk with
          | zero => rfl
          | succ k => simp only [C.times, hct, HDN.out, hcn, HE2.out, if_true]
        rw [← HE.out, e]
        exact HD.out.drewN _
      · have z0 : ((tt : Int) == (nn : Int)) = false := by simp; omega
        have HE2 := Aside0.mk he
        clear he
        have HLT2 : Aside0 (tt < nn) := ⟨by have := HE2.out; omega⟩
        have HN' : Aside0 (d.n ≤ 65) := ⟨by rw [HDN.out]; exact HN.out⟩
        have HT' : Aside0 (d.top < d.n) := ⟨by rw [HDN.out, hct, hcn]; exact HLT2.out⟩
        have HCT := Aside0.mk hct
        have HCN := Aside0.mk hcn
        clear hct hcn
        go_quiet (fail)
        clear hnn htop hf
        go_wp2_with (first | (go_at_call 74; refine (vanish_calls _ g d (HD.out.drewN nq) HN'.out HT'.out).mono ?_; rintro e w4 ⟨rfl, hI4, hK4⟩; have HI4 := Aside0.mk hI4; have HK4 := Aside0.mk hK4; clear hI4 hK4))
        go_roundg (m.toNat - (j + 1))
        case measure => have := HLT.out; omega
        case rel =>
          refine ⟨j + 1, d.vanish, by first | go_num | rfl, rfl, by have := HLT.out; omega, ?_, ⟨?_⟩, ⟨?_⟩, HI4, ⟨(HK.out.trans (KeepG.drewN _ _ _)).trans HK4.out⟩⟩
          · rw [← HDN.out]; exact vanish_roundC.top d HT'.out
          · rw [vanish_roundC.n]; exact HDN.out
          · have e : gk = (m.toNat - (j + 1)) + 1 := by have := HLT.out; omega
            rw [← HE.out, e]
            simp only [C.times, if_neg (Nat.ne_of_lt HT'.out)]
    · have t1 : decide ((j : Int) < m) = false := decide_eq_false hlt
      have HLT := Aside0.mk hlt
      clear hlt
      go_wp2
      go_end0
      have e : gk = 0 := by have := HLT.out; omega
      refine ⟨rfl, ?_, HK.out⟩
      rw [← HE.out, e]
      exact HD.out
end Go.Proofs.YtpldcikmlpegpaaDoor.Col
end
section
namespace Go.Proofs.YtpldcikmlpegpaaDoor.Col
open Go.RowKit Go.Proofs.YtpldcikmlpegpaaDoor.PB Go.Proofs.YtpldcikmlpegpaaDoorW.PrintWords Go.Proofs.YtpldcikmlpegpaaDoorW.PrintLast Go.Proofs.YtpldcikmlpegpaaDoorW.PrintMore
attribute [local go_sem] max2_int min2_int max_two min_two
def freezeAt : Nat → List S48 → Nat → Int → List S48 × Int
  | 0, a, _, m => (a, m)
  | d + 1, a, i, m => freezeAt d (a.set i ⟨wrap64 ((a.getD i z48).f0 + mn m (a.getD i z48).f1), wrap64 ((a.getD i z48).f1 - mn m (a.getD i z48).f1), (a.getD i z48).f2⟩) (i + 1) (wrap64 (m - mn m (a.getD i z48).f1))
def C.freeze (c : C) (m : Int) : C :=
  let r := freezeAt (c.n - c.top) c.at_ c.top m
  if c.top < c.n then { c with at_ := r.1.set c.top ⟨(r.1.getD c.top z48).f0, (r.1.getD c.top z48).f1, wrap64 ((r.1.getD c.top z48).f2 + r.2)⟩ } else { c with at_ := r.1 }
set_option maxRecDepth 100000 in
set_option maxHeartbeats 1000000 in
theorem freeze_calls (w : World) (g : Nat) (c : C) (m : Int) (h : Is w g c) (hn65 : c.n ≤ 65) (ht : c.top ≤ c.n) :
    Calls Tryd.prog 89 #[.pointer (some ⟨g, 0, none⟩), .int .i64 m] w fun e w' => e = .returned (.tuple #[]) ∧ Is w' g (c.freeze m) ∧ KeepG g w w' := by
  have hu := Tryd.underlying48
  have HI := Aside0.mk h
  have HT := Aside0.mk ht
  have HN := Aside0.mk hn65
  obtain ⟨nn, hnn⟩ : ∃ nn, c.n = nn := ⟨_, rfl⟩
  obtain ⟨tt, htt⟩ : ∃ tt, c.top = tt := ⟨_, rfl⟩
  have HNN := Aside0.mk hnn
  have HTT := Aside0.mk htt
  have htop := HI.out.top
  rw [htt] at htop
  have b65 : nn ≤ 65 := by omega
  have btt : tt ≤ nn := by omega
  clear h hnn htt hn65 ht
  go_enter Tryd.func89, Tryd.ntmps89
  go_wp2
  go_loopg [1, 4] (nn - tt) (fun dq v1 v4 w' => ∃ (j : Nat) (q : Int) (a : List S48), v1 = .int .i64 q ∧ v4 = .int .i64 j ∧ j ≤ nn ∧ dq = nn - j ∧ Aside0 (freezeAt dq a j q = freezeAt (nn - tt) c.at_ tt m) ∧ Aside0 (Is w' g { c with at_ := a }) ∧ Aside0 (KeepG g w w'))
  case atStart => exact ⟨tt, m, c.at_, rfl, rfl, btt, rfl, ⟨rfl⟩, HI, ⟨KeepG.refl _ _⟩⟩
  case round =>
    clear htop
    obtain ⟨j, q, a, rfl, rfl, hj, hd, HE, HC, HK⟩ := hrel
    have hcn := HC.out.n
    rw [HNN.out] at hcn
    have hf := HC.out.free
    by_cases hb : j < nn
    · have t1 : decide (j < nn) = true := decide_eq_true hb
      have b1 : j < 65 := by omega
      have hla : j < a.length := by have := HC.out.1; dsimp only at this; omega
      obtain ⟨l, hl⟩ : ∃ l, l = a.getD j z48 := ⟨_, rfl⟩
      have hc0 := HC.out.ice j b1
      have hc1 := HC.out.wet j b1
      simp only [← hl] at hc0 hc1
      have HL := Aside0.mk hl
      clear hl
      obtain ⟨fr, hfr⟩ : ∃ fr, (if l.f1 < q then l.f1 else q) = fr := ⟨_, rfl⟩
      go_wp2
      have HFR : Aside0 (mn q l.f1 = fr) := ⟨hfr⟩
      clear hfr
      go_roundg (nn - (j + 1))
      case measure => omega
      case rel =>
        refine ⟨j + 1, wrap64 (q - fr), a.set j ⟨wrap64 (l.f0 + fr), wrap64 (l.f1 - fr), l.f2⟩, rfl, by go_num, by omega, rfl, ⟨?_⟩, ⟨?_⟩, ⟨(HK.out.trans (KeepG.set _ _ _ _)).trans (KeepG.set _ _ _ _)⟩⟩
        · have e : nn - j = (nn - (j + 1)) + 1 := by omega
          rw [← HE.out, hd, e]
          simp only [freezeAt, ← HL.out, HFR.out]
        · have := (HC.out.putWet j b1 (wrap64 (l.f1 - fr))).putIce j b1 (wrap64 (l.f0 + fr))
          rw [getD_set_self _ _ _ hla] at this
          simp only [← HL.out] at this
          simpa [List.set_set] using this
    · have t1 : decide (j < nn) = false := decide_eq_false hb
      have hend : freezeAt gk a j q = (a, q) := by
        have : gk = 0 := by omega
        rw [this]; rfl
      have HF := Aside0.mk (hend.symm.trans HE.out)
      clear hend HE
      have htop : wr.cell? ⟨g, 195, none⟩ = some (.int .i64 (tt : Int)) := by have := HC.out.top; rw [← HTT.out]; exact this
      go_upto_region 8 with (fail)
      by_cases h1 : tt < nn
      · have t2 : decide (tt < nn) = true := decide_eq_true h1
        have b1 : tt < 65 := by omega
        have hc2 := HC.out.cold tt b1
        obtain ⟨l, hl⟩ : ∃ l, l = a.getD tt z48 := ⟨_, rfl⟩
        simp only [← hl] at hc2
        have HL := Aside0.mk hl
        clear hl
        go_quiet (fail)
        go_wp2
        go_region
        go_end0
        have e := (((HC.out.drewN nq).drew).putCold tt b1 (wrap64 (l.f2 + q)))
        have k := ((HK.out.trans (KeepG.drewN _ _ nq)).trans (KeepG.drew _ _)).trans (KeepG.set g _ (tt * 3 + 2) (.int .i64 (wrap64 (l.f2 + q))))
        refine ⟨rfl, ?_, k⟩
        simp only [C.freeze, HNN.out, HTT.out, if_pos h1, ← HF.out, ← HL.out]
        rw [HNN.out, HTT.out] at e
        simp only [← HL.out] at e
        exact e
      · have t2 : decide (tt < nn) = false := decide_eq_false h1
        go_quiet (fail)
        go_wp2
        go_end0
        refine ⟨rfl, ?_, HK.out.trans (KeepG.drewN _ _ _)⟩
        simp only [C.freeze, HNN.out, HTT.out, if_neg h1, ← HF.out]
        have := HC.out.drewN nq
        rw [HNN.out, HTT.out] at this
        exact this
end Go.Proofs.YtpldcikmlpegpaaDoor.Col
end
section
namespace Go.Proofs.YtpldcikmlpegpaaDoor.Col
open Go.RowKit Go.Proofs.YtpldcikmlpegpaaDoor.PB Go.Proofs.YtpldcikmlpegpaaDoorW.PrintWords Go.Proofs.YtpldcikmlpegpaaDoorW.PrintLast Go.Proofs.YtpldcikmlpegpaaDoorW.PrintMore
attribute [local go_sem] max2_int min2_int max_two min_two
def C.snow (c : C) (m cold : Int) : C := { c with at_ := c.at_.set (c.top - 1) ⟨m, 0, cold⟩, top := c.top - 1 }
def C.rain (c : C) (m : Int) : C :=
  { c with at_ := (flowAt (c.n - c.top) c.at_ c.top m).1, out := wrap64 (c.out + (flowAt (c.n - c.top) c.at_ c.top m).2) }
def C.step (c : C) (k m cold : Int) : C :=
  if k = 1 then (if 0 < m then c.snow m cold else c) else if k = 2 then c.rain m else if k = 3 then C.times C.melt m.toNat c
  else if k = 4 then c.freeze m else if k = 5 ∨ k = 6 then C.times C.vanish m.toNat c else c
theorem Is.putLayers {w : World} {g : Nat} {c : C} (h : Is w g c) (i : Nat) (hi : i < 65) (x y z : Int) :
    Is (((w.setCell ⟨g, i * 3, none⟩ (.int .i64 x)).setCell ⟨g, i * 3 + 1, none⟩ (.int .i64 y)).setCell ⟨g, i * 3 + 2, none⟩ (.int .i64 z)) g { c with at_ := c.at_.set i ⟨x, y, z⟩ } := by
  have hla : i < c.at_.length := by rw [h.1]; exact hi
  have := ((h.putIce i hi x).putWet i hi y).putCold i hi z
  simpa [List.set_set, List.getD_eq_getElem?_getD, hla] using this
section
variable (w : World) (g : Nat) (c : C) (m cold : Int)
set_option maxRecDepth 100000 in
set_option maxHeartbeats 1000000 in
theorem do_snow (h : Is w g c) (hn65 : c.n ≤ 65) (h1 : 1 ≤ c.top) (ht : c.top ≤ c.n) :
    Calls Tryd.prog 60 #[.pointer (some ⟨g, 0, none⟩), .agg #[.int .i64 1, .int .i64 m, .int .i64 cold]] w fun e w' => e = .returned (.tuple #[]) ∧ Is w' g (if 0 < m then c.snow m cold else c) ∧ KeepG g w w' := by
  have hu26 := Tryd.underlying26
  have hu48 := Tryd.underlying48
  have HI := Aside0.mk h
  have HT := Aside0.mk ht
  have HN := Aside0.mk hn65
  have H1 := Aside0.mk h1
  obtain ⟨tt, htt⟩ : ∃ tt, c.top = tt + 1 := ⟨c.top - 1, by omega⟩
  have b65 : tt < 65 := by omega
  have htop := HI.out.top
  rw [htt] at htop
  rw [show (((tt + 1 : Nat)) : Int) = (tt : Int) + 1 by omega] at htop
  have hf := HI.out.free
  have HTT := Aside0.mk htt
  have HLT := HI.out.lt
  clear h hn65 h1 ht htt
  by_cases hm : 0 < m
  · have z0 : decide (0 < m) = true := decide_eq_true hm
    rw [if_pos hm]
    clear hm
    go_enter Tryd.func60, Tryd.ntmps60
    go_upto_region 5 with (fail)
    obtain ⟨b, hb⟩ : ∃ b, w.heap.size = b := ⟨_, rfl⟩
    obtain ⟨W2, hW2⟩ : ∃ W2, (w.setCell ⟨g, 195, none⟩ (.int .i64 (tt : Int))).alloc (.cells #[.int .i64 1, .int .i64 m, .int .i64 cold] 26 (0, 0)) = W2 := ⟨_, rfl⟩
    rw [hb, hW2]
    have HI2 : Aside0 (Is W2 g { c with top := tt }) := ⟨by rw [← hW2]; exact (HI.out.putTop tt).alloc _⟩
    have HK2 : Aside0 (KeepG g w W2) := ⟨by rw [← hW2]; exact (KeepG.set _ _ _ _).trans (KeepG.of_below ((Below.refl _ _).alloc (Nat.le_refl _) _))⟩
    have hbx : W2.heap[b]? = some (.cells #[.int .i64 1, .int .i64 m, .int .i64 cold] 26 (0, 0)) := by rw [← hW2, ← hb, ← World.size_setCell w ⟨g, 195, none⟩ (.int .i64 (tt : Int))]; exact blk_new _ _
    have hm : W2.cell? ⟨b, 1, none⟩ = some (.int .i64 m) := (blk_cell hbx 1).trans rfl
    have hc : W2.cell? ⟨b, 2, none⟩ = some (.int .i64 cold) := (blk_cell hbx 2).trans rfl
    have HNE : b ≠ g := by omega
    clear hW2 hb hbx htop hf HLT
    have htop : W2.cell? ⟨g, 195, none⟩ = some (.int .i64 (tt : Int)) := HI2.out.top
    have hf := HI2.out.free
    have hc0 := HI2.out.ice tt b65
    have hc1 := HI2.out.wet tt b65
    have hc2 := HI2.out.cold tt b65
    obtain ⟨x0, h0⟩ : ∃ x0, ({ c with top := tt } : C).at_.getD tt z48 = x0 := ⟨_, rfl⟩
    rw [h0] at hc0 hc1 hc2
    clear h0
    go_region
    go_end0
    have e := (HI2.out.putLayers tt b65 m 0 cold).drew
    have et : c.top - 1 = tt := by rw [HTT.out]; rfl
    refine ⟨rfl, ?_, (((HK2.out.trans (KeepG.set _ _ _ _)).trans (KeepG.set _ _ _ _)).trans (KeepG.set _ _ _ _)).trans (KeepG.drew _ _)⟩
    unfold C.snow
    rw [et]
    exact e
  · have z0 : decide (0 < m) = false := decide_eq_false hm
    rw [if_neg hm]
    clear hm
    go_enter Tryd.func60, Tryd.ntmps60
    go_wp2
    go_end0
    exact ⟨rfl, HI.out.alloc _, KeepG.of_below ((Below.refl _ _).alloc (Nat.le_refl _) _)⟩
set_option maxRecDepth 100000 in
set_option maxHeartbeats 1000000 in
theorem do_melt (h : Is w g c) (hn65 : c.n ≤ 65) (ht : c.top ≤ c.n) (hm : m ≤ 9223372036854775807) :
    Calls Tryd.prog 60 #[.pointer (some ⟨g, 0, none⟩), .agg #[.int .i64 3, .int .i64 m, .int .i64 cold]] w fun e w' => e = .returned (.tuple #[]) ∧ Is w' g (C.times C.melt m.toNat c) ∧ KeepG g w w' := by
  have hu26 := Tryd.underlying26
  have HI := Aside0.mk h
  have HT := Aside0.mk ht
  have HN := Aside0.mk hn65
  clear h hn65 ht
  have HIa := Aside0.mk (HI.out.alloc (.cells #[.int .i64 3, .int .i64 m, .int .i64 cold] 26 (0, 0)))
  have HKa := Aside0.mk (KeepG.of_below (g := g) ((Below.refl w.heap.size w).alloc (Nat.le_refl _) (.cells #[.int .i64 3, .int .i64 m, .int .i64 cold] 26 (0, 0))))
  go_enter Tryd.func60, Tryd.ntmps60
  go_wp2_with (first | (go_at_call 73; refine (times_melt _ g c m HIa.out HN.out HT.out hm).mono ?_; rintro e w4 ⟨rfl, hI4, hK4⟩; have HI4 := Aside0.mk hI4; have HK4 := Aside0.mk hK4; clear hI4 hK4))
  go_end0
  exact ⟨rfl, HI4.out, HKa.out.trans HK4.out⟩
set_option maxRecDepth 100000 in
set_option maxHeartbeats 1000000 in
theorem do_freeze (h : Is w g c) (hn65 : c.n ≤ 65) (ht : c.top ≤ c.n) :
    Calls Tryd.prog 60 #[.pointer (some ⟨g, 0, none⟩), .agg #[.int .i64 4, .int .i64 m, .int .i64 cold]] w fun e w' => e = .returned (.tuple #[]) ∧ Is w' g (c.freeze m) ∧ KeepG g w w' := by
  have hu26 := Tryd.underlying26
  have HI := Aside0.mk h
  have HT := Aside0.mk ht
  have HN := Aside0.mk hn65
  clear h hn65 ht
  have HIa := Aside0.mk (HI.out.alloc (.cells #[.int .i64 4, .int .i64 m, .int .i64 cold] 26 (0, 0)))
  have HKa := Aside0.mk (KeepG.of_below (g := g) ((Below.refl w.heap.size w).alloc (Nat.le_refl _) (.cells #[.int .i64 4, .int .i64 m, .int .i64 cold] 26 (0, 0))))
  go_enter Tryd.func60, Tryd.ntmps60
  go_wp2_with (first | (go_at_call 89; refine (freeze_calls _ g c m HIa.out HN.out HT.out).mono ?_; rintro e w4 ⟨rfl, hI4, hK4⟩; have HI4 := Aside0.mk hI4; have HK4 := Aside0.mk hK4; clear hI4 hK4))
  go_end0
  exact ⟨rfl, HI4.out, HKa.out.trans HK4.out⟩
set_option maxRecDepth 100000 in
set_option maxHeartbeats 1000000 in
theorem do_loss (h : Is w g c) (hn65 : c.n ≤ 65) (ht : c.top ≤ c.n) (hm : m ≤ 9223372036854775807) :
    Calls Tryd.prog 60 #[.pointer (some ⟨g, 0, none⟩), .agg #[.int .i64 5, .int .i64 m, .int .i64 cold]] w fun e w' => e = .returned (.tuple #[]) ∧ Is w' g (C.times C.vanish m.toNat c) ∧ KeepG g w w' := by
  have hu26 := Tryd.underlying26
  have HI := Aside0.mk h
  have HT := Aside0.mk ht
  have HN := Aside0.mk hn65
  clear h hn65 ht
  have HIa := Aside0.mk (HI.out.alloc (.cells #[.int .i64 5, .int .i64 m, .int .i64 cold] 26 (0, 0)))
  have HKa := Aside0.mk (KeepG.of_below (g := g) ((Below.refl w.heap.size w).alloc (Nat.le_refl _) (.cells #[.int .i64 5, .int .i64 m, .int .i64 cold] 26 (0, 0))))
  go_enter Tryd.func60, Tryd.ntmps60
  go_wp2_with (first | (go_at_call 73; refine (times_vanish _ g c m HIa.out HN.out HT.out hm).mono ?_; rintro e w4 ⟨rfl, hI4, hK4⟩; have HI4 := Aside0.mk hI4; have HK4 := Aside0.mk hK4; clear hI4 hK4))
  go_end0
  exact ⟨rfl, HI4.out, HKa.out.trans HK4.out⟩
set_option maxRecDepth 100000 in
set_option maxHeartbeats 1000000 in
theorem do_blown (h : Is w g c) (hn65 : c.n ≤ 65) (ht : c.top ≤ c.n) (hm : m ≤ 9223372036854775807) :
    Calls Tryd.prog 60 #[.pointer (some ⟨g, 0, none⟩), .agg #[.int .i64 6, .int .i64 m, .int .i64 cold]] w fun e w' => e = .returned (.tuple #[]) ∧ Is w' g (C.times C.vanish m.toNat c) ∧ KeepG g w w' := by
  have hu26 := Tryd.underlying26
  have HI := Aside0.mk h
  have HT := Aside0.mk ht
  have HN := Aside0.mk hn65
  clear h hn65 ht
  have HIa := Aside0.mk (HI.out.alloc (.cells #[.int .i64 6, .int .i64 m, .int .i64 cold] 26 (0, 0)))
  have HKa := Aside0.mk (KeepG.of_below (g := g) ((Below.refl w.heap.size w).alloc (Nat.le_refl _) (.cells #[.int .i64 6, .int .i64 m, .int .i64 cold] 26 (0, 0))))
  go_enter Tryd.func60, Tryd.ntmps60
  go_wp2_with (first | (go_at_call 73; refine (times_vanish _ g c m HIa.out HN.out HT.out hm).mono ?_; rintro e w4 ⟨rfl, hI4, hK4⟩; have HI4 := Aside0.mk hI4; have HK4 := Aside0.mk hK4; clear hI4 hK4))
  go_end0
  exact ⟨rfl, HI4.out, HKa.out.trans HK4.out⟩
set_option maxRecDepth 100000 in
set_option maxHeartbeats 1000000 in
theorem do_rain (h : Is w g c) (hn65 : c.n ≤ 65) (ht : c.top ≤ c.n) :
    Calls Tryd.prog 60 #[.pointer (some ⟨g, 0, none⟩), .agg #[.int .i64 2, .int .i64 m, .int .i64 cold]] w fun e w' => e = .returned (.tuple #[]) ∧ Is w' g (c.rain m) ∧ KeepG g w w' := by
  have hu26 := Tryd.underlying26
  have HI := Aside0.mk h
  have HT := Aside0.mk ht
  have HN := Aside0.mk hn65
  clear h hn65 ht
  have HIa := Aside0.mk (HI.out.alloc (.cells #[.int .i64 2, .int .i64 m, .int .i64 cold] 26 (0, 0)))
  have HKa := Aside0.mk (KeepG.of_below (g := g) ((Below.refl w.heap.size w).alloc (Nat.le_refl _) (.cells #[.int .i64 2, .int .i64 m, .int .i64 cold] 26 (0, 0))))
  have htop := HI.out.top
  go_enter Tryd.func60, Tryd.ntmps60
  go_upto_region 7 with (fail)
  have hbx := blk_new w (.cells #[.int .i64 2, .int .i64 m, .int .i64 cold] 26 (0, 0))
  obtain ⟨b, hb⟩ : ∃ b, w.heap.size = b := ⟨_, rfl⟩
  obtain ⟨W2, hW2⟩ : ∃ W2, w.alloc (.cells #[.int .i64 2, .int .i64 m, .int .i64 cold] 26 (0, 0)) = W2 := ⟨_, rfl⟩
  rw [hW2] at HIa HKa hbx ⊢
  rw [hb] at hbx ⊢
  have hm : W2.cell? ⟨b, 1, none⟩ = some (.int .i64 m) := (blk_cell hbx 1).trans rfl
  clear hW2 hb hbx htop
  have htop := HIa.out.top
  go_region_with (go_at_call 88; refine (flow_calls' _ g c _ c.top m rfl HIa.out.drew HN.out HT.out).mono ?_; rintro e w4 ⟨rfl, hI4, hK4⟩; have HI4 := Aside0.mk hI4; have HK4 := Aside0.mk hK4; clear hI4 hK4)
  all_goals (go_end0; exact ⟨rfl, HI4.out, (HKa.out.trans (KeepG.drew _ _)).trans HK4.out⟩)
end
end Go.Proofs.YtpldcikmlpegpaaDoor.Col
end
section
namespace Go.Proofs.YtpldcikmlpegpaaDoor.Col
open Go.RowKit Go.Proofs.YtpldcikmlpegpaaDoor.PB Go.Proofs.YtpldcikmlpegpaaDoorW.PrintWords Go.Proofs.YtpldcikmlpegpaaDoorW.PrintLast Go.Proofs.YtpldcikmlpegpaaDoorW.PrintMore
theorem run_copy_wide {P : Program} (w : World) (dT sT ty elem : TypeId) (g o dLen dCap : Nat) (a : Addr) (sLen sCap : Nat) (cur : Array Value) (t : TypeId) (cs : List Value) (sz : Nat)
    (hu : P.underlying dT = some (.slice elem)) (hs : (P.info? elem).map (·.size) = some sz)
    (hg : w.heap[g]? = some (.cells cur t (0, 0))) (hn : cs.length = Nat.min sLen dLen * sz)
    (hsrc : ∀ j v, cs[j]? = some v → w.cell? (a.add j) = some v) (hfit : o + cs.length ≤ cur.size) (h1 : ∀ v ∈ cs, v.oneCell' = true) :
    (Builtin.copy_ #[dT, sT] ty #[.slice (some ⟨g, o, none⟩) dLen dCap, .slice (some a) sLen sCap]).run P w =
      .ok (goInt (Nat.min sLen dLen)) (w.setRow g (cur.toList.take o ++ cs ++ cur.toList.drop (o + cs.length)).toArray) := by
  have hl := run_loadCells_list (P := P) w a cs hsrc
  have hst := run_storeCells_at P g o t cs 0 cur w hg (by simpa using hfit) h1
  cases hq : P.info? elem with
  | none => simp [hq] at hs
  | some i =>
    have hi : i.size = sz := by simpa [hq] using hs
    simp [Builtin.copy_, run_underlying hu, Builtin.lenOf, Builtin.firstCells, sizeOf, typeInfo, hq, hi, ← hn, hl, hst]
theorem run_copy_zero {P : Program} (w : World) (dT sT ty elem : TypeId) (d a : Option Addr) (dLen dCap sLen sCap sz : Nat) (hu : P.underlying dT = some (.slice elem)) (hs : (P.info? elem).map (·.size) = some sz) (hn : Nat.min sLen dLen = 0) :
    (Builtin.copy_ #[dT, sT] ty #[.slice d dLen dCap, .slice a sLen sCap]).run P w = .ok (goInt 0) w := by
  cases hq : P.info? elem with
  | none => simp [hq] at hs
  | some i =>
    have hl : ∀ (x : Addr), (loadCells x 0).run P w = .ok #[] w := fun x => by simpa using run_loadCells_list (P := P) w x [] (by simp)
    cases d <;> cases a <;> simp [Builtin.copy_, run_underlying hu, Builtin.lenOf, Builtin.firstCells, sizeOf, typeInfo, hq, hn, storeCells, hl]
theorem KeepG.setRow (g : Nat) (w : World) (cs : Array Value) : KeepG g w (w.setRow g cs) :=
  ⟨rfl, rfl, rfl, by simp [World.setRow], fun k _ hk => setRow_other w g k cs hk⟩
theorem step_copy_wide {P : Program} {ops : Array Oper} {o : Oper} {a : Act} {w : World} {K : Act → World → Prop} {Q : Exit → Act → World → Prop} {E : Prop} (hgd : o.guard = none) (d s : Operand) (dT sT : TypeId)
    (ho : o.op = .call { callee := .builtin .copy, args := #[d, s], argTypes := #[dT, sT] }) (elem : TypeId) (hu : P.underlying dT = some (.slice elem)) (sz : Nat) (hsz : (P.info? elem).map (·.size) = some sz)
    (dp sp : Option Addr) (dLen dCap sLen sCap : Nat) (hd : a.eval d = .slice dp dLen dCap) (hs : a.eval s = .slice sp sLen sCap) (n : Nat) (hm : Nat.min sLen dLen = n)
    (g off : Nat) (cur : List Value) (t : TypeId) (hg : w.heap[g]? = some (.cells cur.toArray t (0, 0))) (cs : List Value) (hn : cs.length = n * sz)
    (hpos : 0 < n → dp = some ⟨g, off, none⟩ ∧ ∃ ad, sp = some ad ∧ ∀ j v, cs[j]? = some v → w.cell? (ad.add j) = some v)
    (hfit : off + cs.length ≤ cur.length) (h1 : ∀ v ∈ cs, v.oneCell' = true)
    (h : ∀ w', Hid (w'.heap[g]? = some (.cells (splice cur off cs).toArray t (0, 0))) → KeepG g w w' → K (a.put o.dst (goInt n)) w') :
    if Region.wanted o (yielded ops a.tmps) = true then Oper.wp P o a w K Q else E := by
  have hw : Region.wanted o (yielded ops a.tmps) = true := by simp [Region.wanted, hgd]
  rw [if_pos hw]
  subst hm
  by_cases h0 : Nat.min sLen dLen = 0
  · obtain rfl : cs = [] := List.eq_nil_of_length_eq_zero (by rw [hn, h0, Nat.zero_mul])
    have hrun := run_copy_zero (P := P) w dT sT o.type elem dp sp dLen dCap sLen sCap sz hu hsz h0
    unfold Oper.wp
    simp [execOp, ho, resolve, invoke, builtin, hd, hs, hrun, Result.andThen]
    rw [h0] at h
    exact h w (show _ = _ by simpa [splice] using hg) (KeepG.refl _ _)
  · obtain ⟨rfl, ad, rfl, hsrc⟩ := hpos (by omega)
    have hrun := run_copy_wide (P := P) w dT sT o.type elem g off dLen dCap ad sLen sCap cur.toArray t cs sz hu hsz hg hn hsrc (by simpa using hfit) h1
    unfold Oper.wp
    simp [execOp, ho, resolve, invoke, builtin, hd, hs, hrun, Result.andThen]
    exact h _ (show _ = _ by simpa [splice] using setRow_heap w g _ _ t _ hg) (KeepG.setRow _ _ _)
end Go.Proofs.YtpldcikmlpegpaaDoor.Col
end
section
namespace Go.Proofs.YtpldcikmlpegpaaDoor.Col
open Go.RowKit Go.Proofs.YtpldcikmlpegpaaDoor.PB Go.Proofs.YtpldcikmlpegpaaDoorW.PrintWords Go.Proofs.YtpldcikmlpegpaaDoorW.PrintLast Go.Proofs.YtpldcikmlpegpaaDoorW.PrintMore
attribute [local go_sem] max2_int min2_int max_two min_two
def C.of (l : List S48) : C := { at_ := z48 :: l ++ List.replicate (64 - l.length) z48, top := 1, n := l.length + 1, out := 0, taken := 0 }
def C.zero (n : Nat) : C := { at_ := List.replicate 65 z48, top := 1, n := n, out := 0, taken := 0 }
set_option maxRecDepth 100000 in
theorem zero_cells (n : Nat) : (Tryd.zeroCells80.setIfInBounds 195 (.int .i64 1)).setIfInBounds 196 (.int .i64 (n : Int)) = (cells (C.zero n)).toArray := by
  have e : Tryd.zeroCells80 = (cells { at_ := List.replicate 65 z48, top := 0, n := 0, out := 0, taken := 0 }).toArray := by kernel_rfl
  rw [e]
  rfl
theorem of_cells (l : List S48) (h : l.length ≤ 64) : splice (cells (C.zero (l.length + 1))) 3 (l.flatMap lcells) = cells (C.of l) := by
  have e1 : (cells (C.zero (l.length + 1))).take 3 = lcells z48 := rfl
  have e2 : (cells (C.zero (l.length + 1))).drop (3 + (l.flatMap lcells).length) = (List.replicate (64 - l.length) z48).flatMap lcells ++ [.int .i64 ((1 : Nat) : Int), .int .i64 ((l.length + 1 : Nat) : Int), .int .i64 0, .int .i64 0] := by
    unfold cells C.zero
    have e3 : List.replicate 65 z48 = List.replicate (1 + l.length) z48 ++ List.replicate (64 - l.length) z48 := by
      rw [List.replicate_append_replicate]; congr 1; omega
    rw [e3, List.flatMap_append, List.append_assoc]
    have e4 : 3 + (l.flatMap lcells).length = ((List.replicate (1 + l.length) z48).flatMap lcells).length := by
      rw [flat_len, flat_len, List.length_replicate]; omega
    rw [e4, List.drop_left]
  unfold splice
  rw [e1, e2]
  unfold cells C.of
  simp [List.flatMap_append, List.append_assoc]
theorem info48s : (Tryd.prog.info? 48).map (·.size) = some 3 := by kernel_rfl
theorem flat_one (l : List S48) : ∀ v ∈ l.flatMap lcells, v.oneCell' = true := by
  intro v hv
  obtain ⟨x, _, hx⟩ := List.mem_flatMap.mp hv
  simp [lcells] at hx
  rcases hx with rfl | rfl | rfl <;> rfl
theorem row_cells {w : World} {A : Option Addr} {l : List S48} (hr : Kd.C k48 w A l.length l) (h0 : 0 < l.length) : ∃ ad, A = some ad ∧ ∀ j v, (l.flatMap lcells)[j]? = some v → w.cell? (ad.add j) = some v := by
  obtain ⟨ad, e, hc⟩ := hr.2.2 h0
  refine ⟨ad, e, fun j v hv => ?_⟩
  have hj : j < l.length * 3 := by have := (List.getElem?_eq_some_iff.1 hv).1; rwa [flat_len] at this
  have hi : j / 3 < l.length := by omega
  have ej : j = j / 3 * 3 + j % 3 := by omega
  rw [ej, flat_get l _ _ hi (by omega)] at hv
  obtain ⟨c, hlen, hk, hcell⟩ := hc (j / 3) (l.getD (j / 3) z48) (by simp [List.getD_eq_getElem?_getD, hi])
  have e2 := k48_open hk
  rw [ej]
  exact hcell (j % 3) v (by rw [e2]; exact hv)
set_option maxRecDepth 100000 in
set_option maxHeartbeats 1000000 in
theorem of_calls (A : Option Addr) (cap : Nat) (l : List S48) (w : World) (hr : Kd.C k48 w A l.length l) (hl : l.length ≤ 64) :
    Calls Tryd.prog 59 #[.agg #[.slice A l.length cap]] w fun e w' => ∃ g, e = .returned (.pointer (some ⟨g, 0, none⟩)) ∧ Is w' g (C.of l) ∧ w.heap.size ≤ g ∧ Below w.heap.size w w' := by
  have hu24 := Tryd.underlying24
  have hu48 := Tryd.underlying48
  have HR := Aside0.mk hr
  clear hr
  go_enter Tryd.func59, Tryd.ntmps59
  go_wp2
  obtain ⟨W1, hW1⟩ : ∃ W1, w.alloc (.cells #[.slice A l.length cap] 24 (0, 0)) = W1 := ⟨_, rfl⟩
  obtain ⟨g, hg⟩ : ∃ g, w.heap.size + 1 = g := ⟨_, rfl⟩
  have hs1 : W1.heap.size = g := by rw [← hW1, ← hg]; simp
  obtain ⟨W0, hW0⟩ : ∃ W0, W1.alloc (.cells (cells (C.zero (l.length + 1))).toArray 80 (0, 0)) = W0 := ⟨_, rfl⟩
  have ez := zero_cells (l.length + 1)
  rw [show (((l.length + 1 : Nat) : Int)) = (l.length : Int) + 1 by omega] at ez
  rw [ez, hW1, hg, hW0]
  have hB1 : Below w.heap.size w W1 := by rw [← hW1]; exact (Below.refl _ _).alloc (Nat.le_refl _) _
  have hB0 : Below w.heap.size w W0 := by rw [← hW0]; exact hB1.alloc (by omega) _
  have hbox : W0.heap[g]? = some (.cells (cells (C.zero (l.length + 1))).toArray 80 (0, 0)) := by rw [← hW0, ← hs1]; exact blk_new _ _
  have hp0 : W0.heap[w.heap.size]? = some (.cells #[.slice A l.length cap] 24 (0, 0)) := by rw [← hW0]; refine blk_alloc ?_ _; rw [← hW1]; exact blk_new _ _
  have hpc : W0.cell? ⟨w.heap.size, 0, none⟩ = some (.slice A l.length cap) := (blk_cell hp0 0).trans rfl
  have HBX := Aside0.mk hbox
  have HB0 := Aside0.mk hB0
  have HG : Aside0 (w.heap.size ≤ g) := ⟨by omega⟩
  have HR0 : Aside0 (Kd.C k48 W0 A l.length l) := ⟨Kd.C_below HR.out hB0⟩
  have HL := Aside0.mk hl
  clear ez hW1 hs1 hW0 hB1 hB0 hbox hp0 hg hl
  have hm : Aside0 (Nat.min l.length 64 = l.length) := ⟨Nat.min_eq_left HL.out⟩
  have hpos : Aside0 (0 < l.length → some (⟨g, 3, none⟩ : Addr) = some ⟨g, 3, none⟩ ∧ ∃ ad, A = some ad ∧ ∀ j v, (l.flatMap lcells)[j]? = some v → W0.drew.cell? (ad.add j) = some v) := ⟨fun h => ⟨rfl, row_cells HR0.out h⟩⟩
  have hfit : Aside0 (3 + (l.flatMap lcells).length ≤ (cells (C.zero (l.length + 1))).length) := ⟨by
    have := HL.out
    unfold cells C.zero
    rw [List.length_append, flat_len, flat_len, List.length_replicate]
    simp only [List.length_cons, List.length_nil]
    omega⟩
  go_region_law (refine step_copy_wide rfl (.tmp 13) (.tmp 15) 22 22 rfl 48 Tryd.underlying22 3 info48s (some ⟨g, 3, none⟩) A 64 64 l.length cap rfl rfl l.length hm.out g 3 (cells (C.zero (l.length + 1))) 80 HBX.out (l.flatMap lcells) (flat_len l) hpos.out hfit.out (flat_one l) ?_; intro w5 h5 k5)
  all_goals (have H5 := Aside0.mk h5.out; have K5 := Aside0.mk k5; clear h5 k5; go_wp2; go_ret)
  all_goals exact ⟨g, rfl, ⟨by have := HL.out; simp [C.of]; omega, by rw [← of_cells l HL.out]; exact H5.out⟩, HG.out, ((KeepG.drew g W0).trans K5.out).below HB0.out HG.out HB0.out.size⟩
end Go.Proofs.YtpldcikmlpegpaaDoor.Col
end
section
namespace Go.Proofs.YtpldcikmlpegpaaDoor.PB
open Go.RowKit Go.Proofs.YtpldcikmlpegpaaDoorW.PrintWords Go.Proofs.YtpldcikmlpegpaaDoorW.PrintLast Go.Proofs.YtpldcikmlpegpaaDoorW.PrintMore
attribute [local go_sem] max2_int min2_int max_two min_two max_three min_three max_four min_four   -- for this text's walks alone
set_option linter.unusedVariables false
set_option linter.unusedSimpArgs false
def pack_right.f (a0_0 : Int) (a0_1 : Int) (a0_2 : Int) : Option (Bool) := (pack_from.f a0_0 1 65536).bind fun t105 => (if t105 = true then ((pack_from.f a0_2 0 65536).bind fun t106 => (if t106 = true then ((pack_hold.f a0_0 a0_1 a0_2).bind fun t107 => ((pack_from.f a0_1 0 t107).bind fun t108 => (if t108 = true then (if a0_1 = 0 then (some true) else (some (a0_2 == 0))) else (some false)))) else (some false))) else (some false))
def pack_right.T1 : Bool × List (List Nat × List Nat) := (true, [([], []), ([0], [0]), ([1], [1]), ([2, 2], [2]), ([3], [3]), ([4, 3], [3, 4]), ([5, 3, 3], [3, 5]), ([3, 6], [3, 6]), ([7, 6], [7]), ([8], [8]), ([9, 8], [8, 9]), ([8], [8]), ([11, 8, 8], [8, 11]), ([10, 12, 12, 8], [8, 10, 12]), ([8, 13], [8, 13]), ([14, 13], [14]), ([15], [15]), ([16, 15], [15, 16]), ([17, 15], [15, 17]), ([18, 15, 15], [15, 18]), ([19], [19]), ([20, 19], [19, 20]), ([21, 19], [19, 21]), ([19, 22, 15], [15, 19, 22]), ([15, 23], [15, 23]), ([24, 19, 0, 1, 2, 3, 4, 5, 6, 7, 8, 9, 10, 11, 12, 13, 14, 15, 16, 17, 18, 19, 20, 21, 22, 23, 24], [24])])
def pack_right.B1 : List Nat := [0, 1, 3, 7, 15, 31, 63, 127, 255, 511, 1023, 511, 2559, 8191, 16383, 32767, 65535, 131071, 262143, 524287, 1048575, 2097151, 4194303, 8388607, 16777215, 33554431]
theorem pack_right.tab1 : rtab .any (opsOf Tryd.f64 1) = pack_right.T1 := by kernel_rfl
theorem pack_right.bits1 : waitsOk pack_right.T1.2 pack_right.B1 = true := by kernel_rfl
set_option maxHeartbeats 8000000 in
set_option maxRecDepth 100000 in
theorem pack_right.calls (a0_0 : Int) (a0_1 : Int) (a0_2 : Int) (r : Bool) (w : World) (h : pack_right.f a0_0 a0_1 a0_2 = some r) :
    Calls Tryd.prog 64 #[.agg #[.int .i64 a0_0, .int .i64 a0_1, .int .i64 a0_2]] w fun e w' => e = .returned (.bool r) ∧ Below w.heap.size w w' := by
  have hu48 := Tryd.underlying48
  have HB := Aside0.mk (Below.refl w.heap.size w)
  have H : ((pack_from.f a0_0 1 65536).bind fun t105 => (if t105 = true then ((pack_from.f a0_2 0 65536).bind fun t106 => (if t106 = true then ((pack_hold.f a0_0 a0_1 a0_2).bind fun t107 => ((pack_from.f a0_1 0 t107).bind fun t108 => (if t108 = true then (if a0_1 = 0 then (some true) else (some (a0_2 == 0))) else (some false)))) else (some false))) else (some false))) = some r := h
  clear h
  replace H := Option.bind_eq_some_iff.mp H
  obtain ⟨t105, A20, H⟩ := H
  replace H : (if t105 = true then ((pack_from.f a0_2 0 65536).bind fun t106 => (if t106 = true then ((pack_hold.f a0_0 a0_1 a0_2).bind fun t107 => ((pack_from.f a0_1 0 t107).bind fun t108 => (if t108 = true then (if a0_1 = 0 then (some true) else (some (a0_2 == 0))) else (some false)))) else (some false))) else (some false)) = some r := H
  have A2 := Aside0.mk A20
  clear A20
  by_cases c3 : t105 = true
  · subst c3
    have H1 : ((pack_from.f a0_2 0 65536).bind fun t106 => (if t106 = true then ((pack_hold.f a0_0 a0_1 a0_2).bind fun t107 => ((pack_from.f a0_1 0 t107).bind fun t108 => (if t108 = true then (if a0_1 = 0 then (some true) else (some (a0_2 == 0))) else (some false)))) else (some false))) = some r := by rw [if_pos rfl] at H; exact H
    clear H
    have H := H1
    clear H1
    replace H := Option.bind_eq_some_iff.mp H
    obtain ⟨t106, A40, H⟩ := H
    replace H : (if t106 = true then ((pack_hold.f a0_0 a0_1 a0_2).bind fun t107 => ((pack_from.f a0_1 0 t107).bind fun t108 => (if t108 = true then (if a0_1 = 0 then (some true) else (some (a0_2 == 0))) else (some false)))) else (some false)) = some r := H
    have A4 := Aside0.mk A40
    clear A40
    by_cases c5 : t106 = true
    · subst c5
      have H1 : ((pack_hold.f a0_0 a0_1 a0_2).bind fun t107 => ((pack_from.f a0_1 0 t107).bind fun t108 => (if t108 = true then (if a0_1 = 0 then (some true) else (some (a0_2 == 0))) else (some false)))) = some r := by rw [if_pos rfl] at H; exact H
      clear H
      have H := H1
      clear H1
      replace H := Option.bind_eq_some_iff.mp H
      obtain ⟨t107, A60, H⟩ := H
      replace H : ((pack_from.f a0_1 0 t107).bind fun t108 => (if t108 = true then (if a0_1 = 0 then (some true) else (some (a0_2 == 0))) else (some false))) = some r := H
      have A6 := Aside0.mk A60
      clear A60
      replace H := Option.bind_eq_some_iff.mp H
      obtain ⟨t108, A70, H⟩ := H
      replace H : (if t108 = true then (if a0_1 = 0 then (some true) else (some (a0_2 == 0))) else (some false)) = some r := H
      have A7 := Aside0.mk A70
      clear A70
      by_cases c8 : t108 = true
      · subst c8
        have H1 : (if a0_1 = 0 then (some true) else (some (a0_2 == 0))) = some r := by rw [if_pos rfl] at H; exact H
        clear H
        have H := H1
        clear H1
        by_cases c9 : a0_1 = 0
        · rw [if_pos c9] at H
          have c9b0 : (a0_1 == 0) = true := beq_iff_eq.mpr c9
          have c9b1 : (a0_1 != 0) = false := bne_eq_false_iff_eq.mpr c9
          clear c9
          obtain rfl := Option.some.inj H
          go_enter Tryd.func64, Tryd.ntmps64
          try go_wp2_with (first | ((with_reducible refine gate_dst (N := 1) rfl ?_); refine box_event ?hg (N := 1) ?hd (cs := #[.int .i64 a0_0, .int .i64 a0_1, .int .i64 a0_2]) (t := 48) ?hr ?_; (case hd => rfl); (case hg => rfl); (case hr => first | (go_simp; done) | (go_simp; rfl)); intro gb104 hg w10 hbox hb; have n0_ := Aside0.mk (below_step (by repeat (first | (with_reducible first | exact HB.out | apply below_alloc | apply pw_below_drewN | apply below_drew1) | exact HB.out)) hb); have n1_ := Aside0.mk (hbox); have n2_ := Aside0.mk ((by rw [hg]; exact (below_size (by repeat (first | (with_reducible first | exact HB.out | apply below_alloc | apply pw_below_drewN | apply below_drew1) | exact HB.out))) : w.heap.size ≤ gb104)); have n3_ := Aside0.mk ((by rw [hg]; exact (below_size (by repeat (first | (with_reducible first | exact HB.out | apply below_alloc | apply pw_below_drewN | apply below_drew1) | exact HB.out))) : w.heap.size ≤ gb104)); clear HB; have HB := n0_; have BK104 := n1_; have GW104 := n2_; have GE104 := n3_; clear n0_ n1_ n2_ n3_; clear hb hbox hg))
          have n0_ := Aside0.mk (blk_drew BK104.out)
          have n1_ := Aside0.mk (below_drew1 HB.out)
          clear BK104
          clear HB
          have BK104 := n0_
          have HB := n1_
          clear n0_ n1_
          refine start_ (n := 26) (S := fun w' => w'.cell? ⟨gb104, 0, none⟩ = some (.int .i64 a0_0) ∧ w'.cell? ⟨gb104, 1, none⟩ = some (.int .i64 a0_1) ∧ w'.cell? ⟨gb104, 2, none⟩ = some (.int .i64 a0_2)) (ds := []) #[false, false, false, false, false, false, false, false, false, false, false, false, false, false, false, false, false, false, false, false, false, false, false, false, false, false] (by kernel_rfl) rfl rfl ⟨(blk_cell BK104.out 0).trans rfl, (blk_cell BK104.out 1).trans rfl, (blk_cell BK104.out 2).trans rfl⟩ (fun hHeld => ?_); refine with_tabW pack_right.tab1 pack_right.bits1 (fun HT_ HW_ => ?_)
          generalize w10.drew = w11 at BK104 HB hHeld ⊢
          refine pure_ (i := 0) (N := some 3) (v := ?_) (a' := ?_) #[true, false, false, false, false, false, false, false, false, false, false, false, false, false, false, false, false, false, false, false, false, false, false, false, false, false] rfl rfl (any_of HT_.out (by kernel_rfl)) (fun _ _ _ h => h) (Or.inl ⟨by rfl, ?_⟩) ?_ ?_
          rotate_left
          · intro w'
            go_simp
            with_reducible rfl
          rotate_left
          · simp only [Act.put, List.setIfInBounds_toArray, List.set_cons_zero, List.set_cons_succ, i64_w, i32_w]
            rfl
          refine take_ (i := 1) (N := some 4) (v := ?_) (a' := ?_) #[true, true, false, false, false, false, false, false, false, false, false, false, false, false, false, false, false, false, false, false, false, false, false, false, false, false] rfl rfl (take_ofW HT_.out HW_.out (by kernel_rfl)) (fun _ _ _ h => h) (Or.inl ⟨by rfl, ?_⟩) hHeld ?_ ?_
          rotate_left
          · rintro w' ⟨s0, s1, s2⟩
            go_simp
            with_reducible rfl
          rotate_left
          · simp only [Act.put, List.setIfInBounds_toArray, List.set_cons_zero, List.set_cons_succ, i64_w, i32_w]
            rfl
          refine one_ (i := 2) (N := some 5) #[true, true, true, false, false, false, false, false, false, false, false, false, false, false, false, false, false, false, false, false, false, false, false, false, false, false] rfl rfl (one_of HT_.out (by kernel_rfl)) (by decide) (fun K hK => ?_)
          refine goes_ Tryd.func67 (by kernel_rfl) rfl #[.int .i64 a0_0, .int .i64 1, .int .i64 65536] (by rfl) rfl rfl (by (try simp only [List.map_toArray, List.map_cons, List.map_nil]); first | done | rfl | (simp only [List.length_drop, List.length_take]; rfl)) ?_
          with_reducible refine (pack_from.calls a0_0 1 65536 true _ A2.out).mono ?_
          rintro e w' ⟨rfl, ⟨nd, rfl⟩⟩
          refine ⟨_, rfl, ?_⟩
          refine hK.out _ _ ⟨(blk_cell BK104.out 0).trans rfl, (blk_cell BK104.out 1).trans rfl, (blk_cell BK104.out 2).trans rfl⟩ (fun hHeld => ?_)
          clear hK K
          refine norm_ (a' := ?_) ?_ ?_
          rotate_left
          · show Act.put _ (some 5) _ = _
            simp only [Act.put, List.setIfInBounds_toArray, List.set_cons_zero, List.set_cons_succ, i64_w, i32_w]
            rfl
          refine pure_ (i := 3) (N := some 6) (v := ?_) (a' := ?_) #[true, true, true, true, false, false, false, false, false, false, false, false, false, false, false, false, false, false, false, false, false, false, false, false, false, false] rfl rfl (any_of HT_.out (by kernel_rfl)) (fun _ _ _ h => h) (Or.inl ⟨by rfl, ?_⟩) ?_ ?_
          rotate_left
          · intro w'
            go_simp
            with_reducible rfl
          rotate_left
          · simp only [Act.put, List.setIfInBounds_toArray, List.set_cons_zero, List.set_cons_succ, i64_w, i32_w]
            rfl
          refine pure_ (i := 4) (N := some 7) (v := ?_) (a' := ?_) #[true, true, true, true, true, false, false, false, false, false, false, false, false, false, false, false, false, false, false, false, false, false, false, false, false, false] rfl rfl (any_of HT_.out (by kernel_rfl)) (fun _ _ _ h => h) (Or.inl ⟨by rfl, ?_⟩) ?_ ?_
          rotate_left
          · intro w'
            go_simp
            with_reducible rfl
          rotate_left
          · simp only [Act.put, List.setIfInBounds_toArray, List.set_cons_zero, List.set_cons_succ, i64_w, i32_w]
            rfl
          refine take_ (i := 5) (N := some 8) (v := ?_) (a' := ?_) #[true, true, true, true, true, true, false, false, false, false, false, false, false, false, false, false, false, false, false, false, false, false, false, false, false, false] rfl rfl (take_ofW HT_.out HW_.out (by kernel_rfl)) (fun _ _ _ h => h) (Or.inl ⟨by rfl, ?_⟩) hHeld ?_ ?_
          rotate_left
          · rintro w' ⟨s0, s1, s2⟩
            go_simp
            with_reducible rfl
          rotate_left
          · simp only [Act.put, List.setIfInBounds_toArray, List.set_cons_zero, List.set_cons_succ, i64_w, i32_w]
            rfl
          refine one_ (i := 6) (N := some 9) #[true, true, true, true, true, true, true, false, false, false, false, false, false, false, false, false, false, false, false, false, false, false, false, false, false, false] rfl rfl (one_of HT_.out (by kernel_rfl)) (by decide) (fun K hK => ?_)
          refine goes_ Tryd.func67 (by kernel_rfl) rfl #[.int .i64 a0_2, .int .i64 0, .int .i64 65536] (by rfl) rfl rfl (by (try simp only [List.map_toArray, List.map_cons, List.map_nil]); first | done | rfl | (simp only [List.length_drop, List.length_take]; rfl)) ?_
          with_reducible refine (pack_from.calls a0_2 0 65536 true _ A4.out).mono ?_
          rintro e w' ⟨rfl, ⟨nd, rfl⟩⟩
          refine ⟨_, rfl, ?_⟩
          refine hK.out _ _ ⟨(blk_cell BK104.out 0).trans rfl, (blk_cell BK104.out 1).trans rfl, (blk_cell BK104.out 2).trans rfl⟩ (fun hHeld => ?_)
          clear hK K
          refine norm_ (a' := ?_) ?_ ?_
          rotate_left
          · show Act.put _ (some 9) _ = _
            simp only [Act.put, List.setIfInBounds_toArray, List.set_cons_zero, List.set_cons_succ, i64_w, i32_w]
            rfl
          refine pure_ (i := 7) (N := some 10) (v := ?_) (a' := ?_) #[true, true, true, true, true, true, true, true, false, false, false, false, false, false, false, false, false, false, false, false, false, false, false, false, false, false] rfl rfl (any_of HT_.out (by kernel_rfl)) (fun _ _ _ h => h) (Or.inl ⟨by rfl, ?_⟩) ?_ ?_
          rotate_left
          · intro w'
            go_simp
            with_reducible rfl
          rotate_left
          · simp only [Act.put, List.setIfInBounds_toArray, List.set_cons_zero, List.set_cons_succ, i64_w, i32_w]
            rfl
          refine pure_ (i := 8) (N := some 11) (v := ?_) (a' := ?_) #[true, true, true, true, true, true, true, true, true, false, false, false, false, false, false, false, false, false, false, false, false, false, false, false, false, false] rfl rfl (any_of HT_.out (by kernel_rfl)) (fun _ _ _ h => h) (Or.inl ⟨by rfl, ?_⟩) ?_ ?_
          rotate_left
          · intro w'
            go_simp
            with_reducible rfl
          rotate_left
          · simp only [Act.put, List.setIfInBounds_toArray, List.set_cons_zero, List.set_cons_succ, i64_w, i32_w]
            rfl
          refine pure_ (i := 9) (N := some 12) (v := ?_) (a' := ?_) #[true, true, true, true, true, true, true, true, true, true, false, false, false, false, false, false, false, false, false, false, false, false, false, false, false, false] rfl rfl (any_of HT_.out (by kernel_rfl)) (fun _ _ _ h => h) (Or.inl ⟨by rfl, ?_⟩) ?_ ?_
          rotate_left
          · intro w'
            go_simp
            with_reducible rfl
          rotate_left
          · simp only [Act.put, List.setIfInBounds_toArray, List.set_cons_zero, List.set_cons_succ, i64_w, i32_w]
            rfl
          refine take_ (i := 10) (N := some 13) (v := ?_) (a' := ?_) #[true, true, true, true, true, true, true, true, true, true, true, false, false, false, false, false, false, false, false, false, false, false, false, false, false, false] rfl rfl (take_ofW HT_.out HW_.out (by kernel_rfl)) (fun _ _ _ h => h) (Or.inl ⟨by rfl, ?_⟩) hHeld ?_ ?_
          rotate_left
          · rintro w' ⟨s0, s1, s2⟩
            go_simp
            with_reducible rfl
          rotate_left
          · simp only [Act.put, List.setIfInBounds_toArray, List.set_cons_zero, List.set_cons_succ, i64_w, i32_w]
            rfl
          refine take_ (i := 11) (N := some 14) (v := ?_) (a' := ?_) #[true, true, true, true, true, true, true, true, true, true, true, true, false, false, false, false, false, false, false, false, false, false, false, false, false, false] rfl rfl (take_ofW HT_.out HW_.out (by kernel_rfl)) (fun _ _ _ h => h) (Or.inl ⟨by rfl, ?_⟩) hHeld ?_ ?_
          rotate_left
          · rintro w' ⟨s0, s1, s2⟩
            go_simp
            with_reducible rfl
          rotate_left
          · simp only [Act.put, List.setIfInBounds_toArray, List.set_cons_zero, List.set_cons_succ, i64_w, i32_w]
            rfl
          refine one_ (i := 12) (N := some 15) #[true, true, true, true, true, true, true, true, true, true, true, true, true, false, false, false, false, false, false, false, false, false, false, false, false, false] rfl rfl (one_of HT_.out (by kernel_rfl)) (by decide) (fun K hK => ?_)
          refine goes_ Tryd.func65 (by kernel_rfl) rfl #[.agg #[.int .i64 a0_0, .int .i64 a0_1, .int .i64 a0_2]] (by rfl) rfl rfl (by (try simp only [List.map_toArray, List.map_cons, List.map_nil]); first | done | rfl | (simp only [List.length_drop, List.length_take]; rfl)) ?_
          with_reducible refine (pack_hold.calls a0_0 a0_1 a0_2 t107 _ A6.out).mono ?_
          rintro e w12 ⟨rfl, hb⟩
          refine ⟨_, rfl, ?_⟩
          have n0_ := Aside0.mk (blk_below (g := gb104) (o := .cells #[.int .i64 a0_0, .int .i64 a0_1, .int .i64 a0_2] 48 (0, 0)) (by (with_reducible repeat (first | refine blk_drewN ?_ _ | refine blk_drew ?_ | refine blk_alloc ?_ _)); exact BK104.out) hb)
          have n1_ := Aside0.mk (below_step (by repeat (first | (with_reducible first | exact HB.out | apply below_alloc | apply pw_below_drewN | apply below_drew1 | refine below_set ?_ GE104.out) | exact HB.out)) hb)
          clear BK104
          clear HB
          have BK104 := n0_
          have HB := n1_
          clear n0_ n1_
          (try clear hb)
          (try clear hb2)
          (try clear hk)
          (try clear hi)
          refine hK.out _ _ ⟨(blk_cell BK104.out 0).trans rfl, (blk_cell BK104.out 1).trans rfl, (blk_cell BK104.out 2).trans rfl⟩ (fun hHeld => ?_)
          clear hK K
          refine norm_ (a' := ?_) ?_ ?_
          rotate_left
          · show Act.put _ (some 15) _ = _
            simp only [Act.put, List.setIfInBounds_toArray, List.set_cons_zero, List.set_cons_succ, i64_w, i32_w]
            rfl
          refine one_ (i := 13) (N := some 16) #[true, true, true, true, true, true, true, true, true, true, true, true, true, true, false, false, false, false, false, false, false, false, false, false, false, false] rfl rfl (one_of HT_.out (by kernel_rfl)) (by decide) (fun K hK => ?_)
          refine goes_ Tryd.func67 (by kernel_rfl) rfl #[.int .i64 a0_1, .int .i64 0, .int .i64 t107] (by rfl) rfl rfl (by (try simp only [List.map_toArray, List.map_cons, List.map_nil]); first | done | rfl | (simp only [List.length_drop, List.length_take]; rfl)) ?_
          with_reducible refine (pack_from.calls a0_1 0 t107 true _ A7.out).mono ?_
          rintro e w' ⟨rfl, ⟨nd, rfl⟩⟩
          refine ⟨_, rfl, ?_⟩
          refine hK.out _ _ ⟨(blk_cell BK104.out 0).trans rfl, (blk_cell BK104.out 1).trans rfl, (blk_cell BK104.out 2).trans rfl⟩ (fun hHeld => ?_)
          clear hK K
          refine norm_ (a' := ?_) ?_ ?_
          rotate_left
          · show Act.put _ (some 16) _ = _
            simp only [Act.put, List.setIfInBounds_toArray, List.set_cons_zero, List.set_cons_succ, i64_w, i32_w]
            rfl
          refine pure_ (i := 14) (N := some 17) (v := ?_) (a' := ?_) #[true, true, true, true, true, true, true, true, true, true, true, true, true, true, true, false, false, false, false, false, false, false, false, false, false, false] rfl rfl (any_of HT_.out (by kernel_rfl)) (fun _ _ _ h => h) (Or.inl ⟨by rfl, ?_⟩) ?_ ?_
          rotate_left
          · intro w'
            go_simp
            with_reducible rfl
          rotate_left
          · simp only [Act.put, List.setIfInBounds_toArray, List.set_cons_zero, List.set_cons_succ, i64_w, i32_w]
            rfl
          refine pure_ (i := 15) (N := some 18) (v := ?_) (a' := ?_) #[true, true, true, true, true, true, true, true, true, true, true, true, true, true, true, true, false, false, false, false, false, false, false, false, false, false] rfl rfl (any_of HT_.out (by kernel_rfl)) (fun _ _ _ h => h) (Or.inl ⟨by rfl, ?_⟩) ?_ ?_
          rotate_left
          · intro w'
            go_simp
            with_reducible rfl
          rotate_left
          · simp only [Act.put, List.setIfInBounds_toArray, List.set_cons_zero, List.set_cons_succ, i64_w, i32_w]
            rfl
          refine pure_ (i := 16) (N := some 19) (v := ?_) (a' := ?_) #[true, true, true, true, true, true, true, true, true, true, true, true, true, true, true, true, true, false, false, false, false, false, false, false, false, false] rfl rfl (any_of HT_.out (by kernel_rfl)) (fun _ _ _ h => h) (Or.inl ⟨by rfl, ?_⟩) ?_ ?_
          rotate_left
          · intro w'
            go_simp
            with_reducible rfl
          rotate_left
          · simp only [Act.put, List.setIfInBounds_toArray, List.set_cons_zero, List.set_cons_succ, i64_w, i32_w]
            rfl
          refine take_ (i := 17) (N := some 20) (v := ?_) (a' := ?_) #[true, true, true, true, true, true, true, true, true, true, true, true, true, true, true, true, true, true, false, false, false, false, false, false, false, false] rfl rfl (take_ofW HT_.out HW_.out (by kernel_rfl)) (fun _ _ _ h => h) (Or.inl ⟨by rfl, ?_⟩) hHeld ?_ ?_
          rotate_left
          · rintro w' ⟨s0, s1, s2⟩
            go_simp
            with_reducible rfl
          rotate_left
          · simp only [Act.put, List.setIfInBounds_toArray, List.set_cons_zero, List.set_cons_succ, i64_w, i32_w]
            rfl
          refine pure_ (i := 18) (N := some 21) (v := ?_) (a' := ?_) #[true, true, true, true, true, true, true, true, true, true, true, true, true, true, true, true, true, true, true, false, false, false, false, false, false, false] rfl rfl (any_of HT_.out (by kernel_rfl)) (fun _ _ _ h => h) (Or.inl ⟨by rfl, ?_⟩) ?_ ?_
          rotate_left
          · intro w'
            go_simp
            with_reducible rfl
          rotate_left
          · simp only [Act.put, List.setIfInBounds_toArray, List.set_cons_zero, List.set_cons_succ, i64_w, i32_w]
            rfl
          refine pure_ (i := 19) (N := some 22) (v := ?_) (a' := ?_) #[true, true, true, true, true, true, true, true, true, true, true, true, true, true, true, true, true, true, true, true, false, false, false, false, false, false] rfl rfl (any_of HT_.out (by kernel_rfl)) (fun _ _ _ h => h) (Or.inl ⟨by rfl, ?_⟩) ?_ ?_
          rotate_left
          · intro w'
            go_simp
            with_reducible rfl
          rotate_left
          · simp only [Act.put, List.setIfInBounds_toArray, List.set_cons_zero, List.set_cons_succ, i64_w, i32_w]
            rfl
          refine pure_ (i := 20) (N := some 23) (v := undef) (a' := ?_) #[true, true, true, true, true, true, true, true, true, true, true, true, true, true, true, true, true, true, true, true, true, false, false, false, false, false] rfl rfl (any_of HT_.out (by kernel_rfl)) (fun _ _ _ h => h) (Or.inr ⟨by rfl, rfl⟩) ?_ ?_
          rotate_left
          · simp only [Act.put, List.setIfInBounds_toArray, List.set_cons_zero, List.set_cons_succ, i64_w, i32_w]
            rfl
          refine pure_ (i := 21) (N := some 24) (v := undef) (a' := ?_) #[true, true, true, true, true, true, true, true, true, true, true, true, true, true, true, true, true, true, true, true, true, true, false, false, false, false] rfl rfl (any_of HT_.out (by kernel_rfl)) (fun _ _ _ h => h) (Or.inr ⟨by rfl, rfl⟩) ?_ ?_
          rotate_left
          · simp only [Act.put, List.setIfInBounds_toArray, List.set_cons_zero, List.set_cons_succ, i64_w, i32_w]
            rfl
          refine pure_ (i := 22) (N := some 25) (v := undef) (a' := ?_) #[true, true, true, true, true, true, true, true, true, true, true, true, true, true, true, true, true, true, true, true, true, true, true, false, false, false] rfl rfl (any_of HT_.out (by kernel_rfl)) (fun _ _ _ h => h) (Or.inr ⟨by rfl, rfl⟩) ?_ ?_
          rotate_left
          · simp only [Act.put, List.setIfInBounds_toArray, List.set_cons_zero, List.set_cons_succ, i64_w, i32_w]
            rfl
          refine pure_ (i := 23) (N := some 26) (v := ?_) (a' := ?_) #[true, true, true, true, true, true, true, true, true, true, true, true, true, true, true, true, true, true, true, true, true, true, true, true, false, false] rfl rfl (any_of HT_.out (by kernel_rfl)) (fun _ _ _ h => h) (Or.inl ⟨by rfl, ?_⟩) ?_ ?_
          rotate_left
          · intro w'
            go_simp
            with_reducible rfl
          rotate_left
          · simp only [Act.put, List.setIfInBounds_toArray, List.set_cons_zero, List.set_cons_succ, i64_w, i32_w]
            rfl
          refine pure_ (i := 24) (N := some 27) (v := ?_) (a' := ?_) #[true, true, true, true, true, true, true, true, true, true, true, true, true, true, true, true, true, true, true, true, true, true, true, true, true, false] rfl rfl (any_of HT_.out (by kernel_rfl)) (fun _ _ _ h => h) (Or.inl ⟨by rfl, ?_⟩) ?_ ?_
          rotate_left
          · intro w'
            go_simp
            with_reducible rfl
          rotate_left
          · simp only [Act.put, List.setIfInBounds_toArray, List.set_cons_zero, List.set_cons_succ, i64_w, i32_w]
            rfl
          refine pure_ (i := 25) (N := some 2) (v := ?_) (a' := ?_) #[true, true, true, true, true, true, true, true, true, true, true, true, true, true, true, true, true, true, true, true, true, true, true, true, true, true] rfl rfl (any_of HT_.out (by kernel_rfl)) (fun _ _ _ h => h) (Or.inl ⟨by rfl, ?_⟩) ?_ ?_
          rotate_left
          · intro w'
            go_simp
            with_reducible rfl
          rotate_left
          · simp only [Act.put, List.setIfInBounds_toArray, List.set_cons_zero, List.set_cons_succ, i64_w, i32_w]
            rfl
          refine done_ (done_of HT_.out (by kernel_rfl)) ?_
          try go_wp2
          go_ret
          exact ⟨by first | rfl | (simp [errW_none, errW_some] <;> rfl) | (simp [*, errW_none, errW_some] <;> rfl), by repeat (first | (with_reducible first | exact HB.out | apply below_alloc | apply pw_below_drewN | apply below_drew1 | refine below_set ?_ GE104.out) | exact HB.out)⟩
        · rw [if_neg c9] at H
          have c9b0 : (a0_1 == 0) = false := beq_eq_false_iff_ne.mpr c9
          have c9b1 : (a0_1 != 0) = true := bne_iff_ne.mpr c9
          obtain rfl := Option.some.inj H
          go_enter Tryd.func64, Tryd.ntmps64
          try go_wp2_with (first | ((with_reducible refine gate_dst (N := 1) rfl ?_); refine box_event ?hg (N := 1) ?hd (cs := #[.int .i64 a0_0, .int .i64 a0_1, .int .i64 a0_2]) (t := 48) ?hr ?_; (case hd => rfl); (case hg => rfl); (case hr => first | (go_simp; done) | (go_simp; rfl)); intro gb104 hg w13 hbox hb; have n0_ := Aside0.mk (below_step (by repeat (first | (with_reducible first | exact HB.out | apply below_alloc | apply pw_below_drewN | apply below_drew1) | exact HB.out)) hb); have n1_ := Aside0.mk (hbox); have n2_ := Aside0.mk ((by rw [hg]; exact (below_size (by repeat (first | (with_reducible first | exact HB.out | apply below_alloc | apply pw_below_drewN | apply below_drew1) | exact HB.out))) : w.heap.size ≤ gb104)); have n3_ := Aside0.mk ((by rw [hg]; exact (below_size (by repeat (first | (with_reducible first | exact HB.out | apply below_alloc | apply pw_below_drewN | apply below_drew1) | exact HB.out))) : w.heap.size ≤ gb104)); clear HB; have HB := n0_; have BK104 := n1_; have GW104 := n2_; have GE104 := n3_; clear n0_ n1_ n2_ n3_; clear hb hbox hg))
          have n0_ := Aside0.mk (blk_drew BK104.out)
          have n1_ := Aside0.mk (below_drew1 HB.out)
          clear BK104
          clear HB
          have BK104 := n0_
          have HB := n1_
          clear n0_ n1_
          refine start_ (n := 26) (S := fun w' => w'.cell? ⟨gb104, 0, none⟩ = some (.int .i64 a0_0) ∧ w'.cell? ⟨gb104, 1, none⟩ = some (.int .i64 a0_1) ∧ w'.cell? ⟨gb104, 2, none⟩ = some (.int .i64 a0_2)) (ds := []) #[false, false, false, false, false, false, false, false, false, false, false, false, false, false, false, false, false, false, false, false, false, false, false, false, false, false] (by kernel_rfl) rfl rfl ⟨(blk_cell BK104.out 0).trans rfl, (blk_cell BK104.out 1).trans rfl, (blk_cell BK104.out 2).trans rfl⟩ (fun hHeld => ?_); refine with_tabW pack_right.tab1 pack_right.bits1 (fun HT_ HW_ => ?_)
          generalize w13.drew = w14 at BK104 HB hHeld ⊢
          refine pure_ (i := 0) (N := some 3) (v := ?_) (a' := ?_) #[true, false, false, false, false, false, false, false, false, false, false, false, false, false, false, false, false, false, false, false, false, false, false, false, false, false] rfl rfl (any_of HT_.out (by kernel_rfl)) (fun _ _ _ h => h) (Or.inl ⟨by rfl, ?_⟩) ?_ ?_
          rotate_left
          · intro w'
            go_simp
            with_reducible rfl
          rotate_left
          · simp only [Act.put, List.setIfInBounds_toArray, List.set_cons_zero, List.set_cons_succ, i64_w, i32_w]
            rfl
          refine take_ (i := 1) (N := some 4) (v := ?_) (a' := ?_) #[true, true, false, false, false, false, false, false, false, false, false, false, false, false, false, false, false, false, false, false, false, false, false, false, false, false] rfl rfl (take_ofW HT_.out HW_.out (by kernel_rfl)) (fun _ _ _ h => h) (Or.inl ⟨by rfl, ?_⟩) hHeld ?_ ?_
          rotate_left
          · rintro w' ⟨s0, s1, s2⟩
            go_simp
            with_reducible rfl
          rotate_left
          · simp only [Act.put, List.setIfInBounds_toArray, List.set_cons_zero, List.set_cons_succ, i64_w, i32_w]
            rfl
          refine one_ (i := 2) (N := some 5) #[true, true, true, false, false, false, false, false, false, false, false, false, false, false, false, false, false, false, false, false, false, false, false, false, false, false] rfl rfl (one_of HT_.out (by kernel_rfl)) (by decide) (fun K hK => ?_)
          refine goes_ Tryd.func67 (by kernel_rfl) rfl #[.int .i64 a0_0, .int .i64 1, .int .i64 65536] (by rfl) rfl rfl (by (try simp only [List.map_toArray, List.map_cons, List.map_nil]); first | done | rfl | (simp only [List.length_drop, List.length_take]; rfl)) ?_
          with_reducible refine (pack_from.calls a0_0 1 65536 true _ A2.out).mono ?_
          rintro e w' ⟨rfl, ⟨nd, rfl⟩⟩
          refine ⟨_, rfl, ?_⟩
          refine hK.out _ _ ⟨(blk_cell BK104.out 0).trans rfl, (blk_cell BK104.out 1).trans rfl, (blk_cell BK104.out 2).trans rfl⟩ (fun hHeld => ?_)
          clear hK K
          refine norm_ (a' := ?_) ?_ ?_
          rotate_left
          · show Act.put _ (some 5) _ = _
            simp only [Act.put, List.setIfInBounds_toArray, List.set_cons_zero, List.set_cons_succ, i64_w, i32_w]
            rfl
          refine pure_ (i := 3) (N := some 6) (v := ?_) (a' := ?_) #[true, true, true, true, false, false, false, false, false, false, false, false, false, false, false, false, false, false, false, false, false, false, false, false, false, false] rfl rfl (any_of HT_.out (by kernel_rfl)) (fun _ _ _ h => h) (Or.inl ⟨by rfl, ?_⟩) ?_ ?_
          rotate_left
          · intro w'
            go_simp
            with_reducible rfl
          rotate_left
          · simp only [Act.put, List.setIfInBounds_toArray, List.set_cons_zero, List.set_cons_succ, i64_w, i32_w]
            rfl
          refine pure_ (i := 4) (N := some 7) (v := ?_) (a' := ?_) #[true, true, true, true, true, false, false, false, false, false, false, false, false, false, false, false, false, false, false, false, false, false, false, false, false, false] rfl rfl (any_of HT_.out (by kernel_rfl)) (fun _ _ _ h => h) (Or.inl ⟨by rfl, ?_⟩) ?_ ?_
          rotate_left
          · intro w'
            go_simp
            with_reducible rfl
          rotate_left
          · simp only [Act.put, List.setIfInBounds_toArray, List.set_cons_zero, List.set_cons_succ, i64_w, i32_w]
            rfl
          refine take_ (i := 5) (N := some 8) (v := ?_) (a' := ?_) #[true, true, true, true, true, true, false, false, false, false, false, false, false, false, false, false, false, false, false, false, false, false, false, false, false, false] rfl rfl (take_ofW HT_.out HW_.out (by kernel_rfl)) (fun _ _ _ h => h) (Or.inl ⟨by rfl, ?_⟩) hHeld ?_ ?_
          rotate_left
          · rintro w' ⟨s0, s1, s2⟩
            go_simp
            with_reducible rfl
          rotate_left
          · simp only [Act.put, List.setIfInBounds_toArray, List.set_cons_zero, List.set_cons_succ, i64_w, i32_w]
            rfl
          refine one_ (i := 6) (N := some 9) #[true, true, true, true, true, true, true, false, false, false, false, false, false, false, false, false, false, false, false, false, false, false, false, false, false, false] rfl rfl (one_of HT_.out (by kernel_rfl)) (by decide) (fun K hK => ?_)
          refine goes_ Tryd.func67 (by kernel_rfl) rfl #[.int .i64 a0_2, .int .i64 0, .int .i64 65536] (by rfl) rfl rfl (by (try simp only [List.map_toArray, List.map_cons, List.map_nil]); first | done | rfl | (simp only [List.length_drop, List.length_take]; rfl)) ?_
          with_reducible refine (pack_from.calls a0_2 0 65536 true _ A4.out).mono ?_
          rintro e w' ⟨rfl, ⟨nd, rfl⟩⟩
          refine ⟨_, rfl, ?_⟩
          refine hK.out _ _ ⟨(blk_cell BK104.out 0).trans rfl, (blk_cell BK104.out 1).trans rfl, (blk_cell BK104.out 2).trans rfl⟩ (fun hHeld => ?_)
          clear hK K
          refine norm_ (a' := ?_) ?_ ?_
          rotate_left
          · show Act.put _ (some 9) _ = _
            simp only [Act.put, List.setIfInBounds_toArray, List.set_cons_zero, List.set_cons_succ, i64_w, i32_w]
            rfl
          refine pure_ (i := 7) (N := some 10) (v := ?_) (a' := ?_) #[true, true, true, true, true, true, true, true, false, false, false, false, false, false, false, false, false, false, false, false, false, false, false, false, false, false] rfl rfl (any_of HT_.out (by kernel_rfl)) (fun _ _ _ h => h) (Or.inl ⟨by rfl, ?_⟩) ?_ ?_
          rotate_left
          · intro w'
            go_simp
            with_reducible rfl
          rotate_left
          · simp only [Act.put, List.setIfInBounds_toArray, List.set_cons_zero, List.set_cons_succ, i64_w, i32_w]
            rfl
          refine pure_ (i := 8) (N := some 11) (v := ?_) (a' := ?_) #[true, true, true, true, true, true, true, true, true, false, false, false, false, false, false, false, false, false, false, false, false, false, false, false, false, false] rfl rfl (any_of HT_.out (by kernel_rfl)) (fun _ _ _ h => h) (Or.inl ⟨by rfl, ?_⟩) ?_ ?_
          rotate_left
          · intro w'
            go_simp
            with_reducible rfl
          rotate_left
          · simp only [Act.put, List.setIfInBounds_toArray, List.set_cons_zero, List.set_cons_succ, i64_w, i32_w]
            rfl
          refine pure_ (i := 9) (N := some 12) (v := ?_) (a' := ?_) #[true, true, true, true, true, true, true, true, true, true, false, false, false, false, false, false, false, false, false, false, false, false, false, false, false, false] rfl rfl (any_of HT_.out (by kernel_rfl)) (fun _ _ _ h => h) (Or.inl ⟨by rfl, ?_⟩) ?_ ?_
          rotate_left
          · intro w'
            go_simp
            with_reducible rfl
          rotate_left
          · simp only [Act.put, List.setIfInBounds_toArray, List.set_cons_zero, List.set_cons_succ, i64_w, i32_w]
            rfl
          refine take_ (i := 10) (N := some 13) (v := ?_) (a' := ?_) #[true, true, true, true, true, true, true, true, true, true, true, false, false, false, false, false, false, false, false, false, false, false, false, false, false, false] rfl rfl (take_ofW HT_.out HW_.out (by kernel_rfl)) (fun _ _ _ h => h) (Or.inl ⟨by rfl, ?_⟩) hHeld ?_ ?_
          rotate_left
          · rintro w' ⟨s0, s1, s2⟩
            go_simp
            with_reducible rfl
          rotate_left
          · simp only [Act.put, List.setIfInBounds_toArray, List.set_cons_zero, List.set_cons_succ, i64_w, i32_w]
            rfl
          refine take_ (i := 11) (N := some 14) (v := ?_) (a' := ?_) #[true, true, true, true, true, true, true, true, true, true, true, true, false, false, false, false, false, false, false, false, false, false, false, false, false, false] rfl rfl (take_ofW HT_.out HW_.out (by kernel_rfl)) (fun _ _ _ h => h) (Or.inl ⟨by rfl, ?_⟩) hHeld ?_ ?_
          rotate_left
          · rintro w' ⟨s0, s1, s2⟩
            go_simp
            with_reducible rfl
          rotate_left
          · simp only [Act.put, List.setIfInBounds_toArray, List.set_cons_zero, List.set_cons_succ, i64_w, i32_w]
            rfl
          refine one_ (i := 12) (N := some 15) #[true, true, true, true, true, true, true, true, true, true, true, true, true, false, false, false, false, false, false, false, false, false, false, false, false, false] rfl rfl (one_of HT_.out (by kernel_rfl)) (by decide) (fun K hK => ?_)
          refine goes_ Tryd.func65 (by kernel_rfl) rfl #[.agg #[.int .i64 a0_0, .int .i64 a0_1, .int .i64 a0_2]] (by rfl) rfl rfl (by (try simp only [List.map_toArray, List.map_cons, List.map_nil]); first | done | rfl | (simp only [List.length_drop, List.length_take]; rfl)) ?_
          with_reducible refine (pack_hold.calls a0_0 a0_1 a0_2 t107 _ A6.out).mono ?_
          rintro e w15 ⟨rfl, hb⟩
          refine ⟨_, rfl, ?_⟩
          have n0_ := Aside0.mk (blk_below (g := gb104) (o := .cells #[.int .i64 a0_0, .int .i64 a0_1, .int .i64 a0_2] 48 (0, 0)) (by (with_reducible repeat (first | refine blk_drewN ?_ _ | refine blk_drew ?_ | refine blk_alloc ?_ _)); exact BK104.out) hb)
          have n1_ := Aside0.mk (below_step (by repeat (first | (with_reducible first | exact HB.out | apply below_alloc | apply pw_below_drewN | apply below_drew1 | refine below_set ?_ GE104.out) | exact HB.out)) hb)
          clear BK104
          clear HB
          have BK104 := n0_
          have HB := n1_
          clear n0_ n1_
          (try clear hb)
          (try clear hb2)
          (try clear hk)
          (try clear hi)
          refine hK.out _ _ ⟨(blk_cell BK104.out 0).trans rfl, (blk_cell BK104.out 1).trans rfl, (blk_cell BK104.out 2).trans rfl⟩ (fun hHeld => ?_)
          clear hK K
          refine norm_ (a' := ?_) ?_ ?_
          rotate_left
          · show Act.put _ (some 15) _ = _
            simp only [Act.put, List.setIfInBounds_toArray, List.set_cons_zero, List.set_cons_succ, i64_w, i32_w]
            rfl
          refine one_ (i := 13) (N := some 16) #[true, true, true, true, true, true, true, true, true, true, true, true, true, true, false, false, false, false, false, false, false, false, false, false, false, false] rfl rfl (one_of HT_.out (by kernel_rfl)) (by decide) (fun K hK => ?_)
          refine goes_ Tryd.func67 (by kernel_rfl) rfl #[.int .i64 a0_1, .int .i64 0, .int .i64 t107] (by rfl) rfl rfl (by (try simp only [List.map_toArray, List.map_cons, List.map_nil]); first | done | rfl | (simp only [List.length_drop, List.length_take]; rfl)) ?_
          with_reducible refine (pack_from.calls a0_1 0 t107 true _ A7.out).mono ?_
          rintro e w' ⟨rfl, ⟨nd, rfl⟩⟩
          refine ⟨_, rfl, ?_⟩
          refine hK.out _ _ ⟨(blk_cell BK104.out 0).trans rfl, (blk_cell BK104.out 1).trans rfl, (blk_cell BK104.out 2).trans rfl⟩ (fun hHeld => ?_)
          clear hK K
          refine norm_ (a' := ?_) ?_ ?_
          rotate_left
          · show Act.put _ (some 16) _ = _
            simp only [Act.put, List.setIfInBounds_toArray, List.set_cons_zero, List.set_cons_succ, i64_w, i32_w]
            rfl
          refine pure_ (i := 14) (N := some 17) (v := ?_) (a' := ?_) #[true, true, true, true, true, true, true, true, true, true, true, true, true, true, true, false, false, false, false, false, false, false, false, false, false, false] rfl rfl (any_of HT_.out (by kernel_rfl)) (fun _ _ _ h => h) (Or.inl ⟨by rfl, ?_⟩) ?_ ?_
          rotate_left
          · intro w'
            go_simp
            with_reducible rfl
          rotate_left
          · simp only [Act.put, List.setIfInBounds_toArray, List.set_cons_zero, List.set_cons_succ, i64_w, i32_w]
            rfl
          refine pure_ (i := 15) (N := some 18) (v := ?_) (a' := ?_) #[true, true, true, true, true, true, true, true, true, true, true, true, true, true, true, true, false, false, false, false, false, false, false, false, false, false] rfl rfl (any_of HT_.out (by kernel_rfl)) (fun _ _ _ h => h) (Or.inl ⟨by rfl, ?_⟩) ?_ ?_
          rotate_left
          · intro w'
            go_simp
            with_reducible rfl
          rotate_left
          · simp only [Act.put, List.setIfInBounds_toArray, List.set_cons_zero, List.set_cons_succ, i64_w, i32_w]
            rfl
          refine pure_ (i := 16) (N := some 19) (v := ?_) (a' := ?_) #[true, true, true, true, true, true, true, true, true, true, true, true, true, true, true, true, true, false, false, false, false, false, false, false, false, false] rfl rfl (any_of HT_.out (by kernel_rfl)) (fun _ _ _ h => h) (Or.inl ⟨by rfl, ?_⟩) ?_ ?_
          rotate_left
          · intro w'
            go_simp
            with_reducible rfl
          rotate_left
          · simp only [Act.put, List.setIfInBounds_toArray, List.set_cons_zero, List.set_cons_succ, i64_w, i32_w]
            rfl
          refine take_ (i := 17) (N := some 20) (v := ?_) (a' := ?_) #[true, true, true, true, true, true, true, true, true, true, true, true, true, true, true, true, true, true, false, false, false, false, false, false, false, false] rfl rfl (take_ofW HT_.out HW_.out (by kernel_rfl)) (fun _ _ _ h => h) (Or.inl ⟨by rfl, ?_⟩) hHeld ?_ ?_
          rotate_left
          · rintro w' ⟨s0, s1, s2⟩
            go_simp
            with_reducible rfl
          rotate_left
          · simp only [Act.put, List.setIfInBounds_toArray, List.set_cons_zero, List.set_cons_succ, i64_w, i32_w]
            rfl
          refine pure_ (i := 18) (N := some 21) (v := ?_) (a' := ?_) #[true, true, true, true, true, true, true, true, true, true, true, true, true, true, true, true, true, true, true, false, false, false, false, false, false, false] rfl rfl (any_of HT_.out (by kernel_rfl)) (fun _ _ _ h => h) (Or.inl ⟨by rfl, ?_⟩) ?_ ?_
          rotate_left
          · intro w'
            go_simp
            with_reducible rfl
          rotate_left
          · simp only [Act.put, List.setIfInBounds_toArray, List.set_cons_zero, List.set_cons_succ, i64_w, i32_w]
            rfl
          refine pure_ (i := 19) (N := some 22) (v := ?_) (a' := ?_) #[true, true, true, true, true, true, true, true, true, true, true, true, true, true, true, true, true, true, true, true, false, false, false, false, false, false] rfl rfl (any_of HT_.out (by kernel_rfl)) (fun _ _ _ h => h) (Or.inl ⟨by rfl, ?_⟩) ?_ ?_
          rotate_left
          · intro w'
            go_simp
            with_reducible rfl
          rotate_left
          · simp only [Act.put, List.setIfInBounds_toArray, List.set_cons_zero, List.set_cons_succ, i64_w, i32_w]
            rfl
          refine pure_ (i := 20) (N := some 23) (v := ?_) (a' := ?_) #[true, true, true, true, true, true, true, true, true, true, true, true, true, true, true, true, true, true, true, true, true, false, false, false, false, false] rfl rfl (any_of HT_.out (by kernel_rfl)) (fun _ _ _ h => h) (Or.inl ⟨by rfl, ?_⟩) ?_ ?_
          rotate_left
          · intro w'
            go_simp
            with_reducible rfl
          rotate_left
          · simp only [Act.put, List.setIfInBounds_toArray, List.set_cons_zero, List.set_cons_succ, i64_w, i32_w]
            rfl
          refine take_ (i := 21) (N := some 24) (v := ?_) (a' := ?_) #[true, true, true, true, true, true, true, true, true, true, true, true, true, true, true, true, true, true, true, true, true, true, false, false, false, false] rfl rfl (take_ofW HT_.out HW_.out (by kernel_rfl)) (fun _ _ _ h => h) (Or.inl ⟨by rfl, ?_⟩) hHeld ?_ ?_
          rotate_left
          · rintro w' ⟨s0, s1, s2⟩
            go_simp
            with_reducible rfl
          rotate_left
          · simp only [Act.put, List.setIfInBounds_toArray, List.set_cons_zero, List.set_cons_succ, i64_w, i32_w]
            rfl
          refine pure_ (i := 22) (N := some 25) (v := ?_) (a' := ?_) #[true, true, true, true, true, true, true, true, true, true, true, true, true, true, true, true, true, true, true, true, true, true, true, false, false, false] rfl rfl (any_of HT_.out (by kernel_rfl)) (fun _ _ _ h => h) (Or.inl ⟨by rfl, ?_⟩) ?_ ?_
          rotate_left
          · intro w'
            go_simp
            with_reducible rfl
          rotate_left
          · simp only [Act.put, List.setIfInBounds_toArray, List.set_cons_zero, List.set_cons_succ, i64_w, i32_w]
            rfl
          refine pure_ (i := 23) (N := some 26) (v := ?_) (a' := ?_) #[true, true, true, true, true, true, true, true, true, true, true, true, true, true, true, true, true, true, true, true, true, true, true, true, false, false] rfl rfl (any_of HT_.out (by kernel_rfl)) (fun _ _ _ h => h) (Or.inl ⟨by rfl, ?_⟩) ?_ ?_
          rotate_left
          · intro w'
            go_simp
            with_reducible rfl
          rotate_left
          · simp only [Act.put, List.setIfInBounds_toArray, List.set_cons_zero, List.set_cons_succ, i64_w, i32_w]
            rfl
          refine pure_ (i := 24) (N := some 27) (v := ?_) (a' := ?_) #[true, true, true, true, true, true, true, true, true, true, true, true, true, true, true, true, true, true, true, true, true, true, true, true, true, false] rfl rfl (any_of HT_.out (by kernel_rfl)) (fun _ _ _ h => h) (Or.inl ⟨by rfl, ?_⟩) ?_ ?_
          rotate_left
          · intro w'
            go_simp
            with_reducible rfl
          rotate_left
          · simp only [Act.put, List.setIfInBounds_toArray, List.set_cons_zero, List.set_cons_succ, i64_w, i32_w]
            rfl
          refine pure_ (i := 25) (N := some 2) (v := ?_) (a' := ?_) #[true, true, true, true, true, true, true, true, true, true, true, true, true, true, true, true, true, true, true, true, true, true, true, true, true, true] rfl rfl (any_of HT_.out (by kernel_rfl)) (fun _ _ _ h => h) (Or.inl ⟨by rfl, ?_⟩) ?_ ?_
          rotate_left
          · intro w'
            go_simp
            with_reducible rfl
          rotate_left
          · simp only [Act.put, List.setIfInBounds_toArray, List.set_cons_zero, List.set_cons_succ, i64_w, i32_w]
            rfl
          refine done_ (done_of HT_.out (by kernel_rfl)) ?_
          try go_wp2
          go_ret
          exact ⟨by first | rfl | (simp [errW_none, errW_some] <;> rfl) | (simp [*, errW_none, errW_some] <;> rfl), by repeat (first | (with_reducible first | exact HB.out | apply below_alloc | apply pw_below_drewN | apply below_drew1 | refine below_set ?_ GE104.out) | exact HB.out)⟩
      · replace c8 := Bool.eq_false_iff.mpr c8
        subst c8
        have H1 : (some false) = some r := by rw [if_neg (show ¬ (false = true) by decide)] at H; exact H
        clear H
        have H := H1
        clear H1
        obtain rfl := Option.some.inj H
        go_enter Tryd.func64, Tryd.ntmps64
        try go_wp2_with (first | ((with_reducible refine gate_dst (N := 1) rfl ?_); refine box_event ?hg (N := 1) ?hd (cs := #[.int .i64 a0_0, .int .i64 a0_1, .int .i64 a0_2]) (t := 48) ?hr ?_; (case hd => rfl); (case hg => rfl); (case hr => first | (go_simp; done) | (go_simp; rfl)); intro gb104 hg w16 hbox hb; have n0_ := Aside0.mk (below_step (by repeat (first | (with_reducible first | exact HB.out | apply below_alloc | apply pw_below_drewN | apply below_drew1) | exact HB.out)) hb); have n1_ := Aside0.mk (hbox); have n2_ := Aside0.mk ((by rw [hg]; exact (below_size (by repeat (first | (with_reducible first | exact HB.out | apply below_alloc | apply pw_below_drewN | apply below_drew1) | exact HB.out))) : w.heap.size ≤ gb104)); have n3_ := Aside0.mk ((by rw [hg]; exact (below_size (by repeat (first | (with_reducible first | exact HB.out | apply below_alloc | apply pw_below_drewN | apply below_drew1) | exact HB.out))) : w.heap.size ≤ gb104)); clear HB; have HB := n0_; have BK104 := n1_; have GW104 := n2_; have GE104 := n3_; clear n0_ n1_ n2_ n3_; clear hb hbox hg))
        have n0_ := Aside0.mk (blk_drew BK104.out)
        have n1_ := Aside0.mk (below_drew1 HB.out)
        clear BK104
        clear HB
        have BK104 := n0_
        have HB := n1_
        clear n0_ n1_
        refine start_ (n := 26) (S := fun w' => w'.cell? ⟨gb104, 0, none⟩ = some (.int .i64 a0_0) ∧ w'.cell? ⟨gb104, 1, none⟩ = some (.int .i64 a0_1) ∧ w'.cell? ⟨gb104, 2, none⟩ = some (.int .i64 a0_2)) (ds := []) #[false, false, false, false, false, false, false, false, false, false, false, false, false, false, false, false, false, false, false, false, false, false, false, false, false, false] (by kernel_rfl) rfl rfl ⟨(blk_cell BK104.out 0).trans rfl, (blk_cell BK104.out 1).trans rfl, (blk_cell BK104.out 2).trans rfl⟩ (fun hHeld => ?_); refine with_tabW pack_right.tab1 pack_right.bits1 (fun HT_ HW_ => ?_)
        generalize w16.drew = w17 at BK104 HB hHeld ⊢
        refine pure_ (i := 0) (N := some 3) (v := ?_) (a' := ?_) #[true, false, false, false, false, false, false, false, false, false, false, false, false, false, false, false, false, false, false, false, false, false, false, false, false, false] rfl rfl (any_of HT_.out (by kernel_rfl)) (fun _ _ _ h => h) (Or.inl ⟨by rfl, ?_⟩) ?_ ?_
        rotate_left
        · intro w'
          go_simp
          with_reducible rfl
        rotate_left
        · simp only [Act.put, List.setIfInBounds_toArray, List.set_cons_zero, List.set_cons_succ, i64_w, i32_w]
          rfl
        refine take_ (i := 1) (N := some 4) (v := ?_) (a' := ?_) #[true, true, false, false, false, false, false, false, false, false, false, false, false, false, false, false, false, false, false, false, false, false, false, false, false, false] rfl rfl (take_ofW HT_.out HW_.out (by kernel_rfl)) (fun _ _ _ h => h) (Or.inl ⟨by rfl, ?_⟩) hHeld ?_ ?_
        rotate_left
        · rintro w' ⟨s0, s1, s2⟩
          go_simp
          with_reducible rfl
        rotate_left
        · simp only [Act.put, List.setIfInBounds_toArray, List.set_cons_zero, List.set_cons_succ, i64_w, i32_w]
          rfl
        refine one_ (i := 2) (N := some 5) #[true, true, true, false, false, false, false, false, false, false, false, false, false, false, false, false, false, false, false, false, false, false, false, false, false, false] rfl rfl (one_of HT_.out (by kernel_rfl)) (by decide) (fun K hK => ?_)
        refine goes_ Tryd.func67 (by kernel_rfl) rfl #[.int .i64 a0_0, .int .i64 1, .int .i64 65536] (by rfl) rfl rfl (by (try simp only [List.map_toArray, List.map_cons, List.map_nil]); first | done | rfl | (simp only [List.length_drop, List.length_take]; rfl)) ?_
        with_reducible refine (pack_from.calls a0_0 1 65536 true _ A2.out).mono ?_
        rintro e w' ⟨rfl, ⟨nd, rfl⟩⟩
        refine ⟨_, rfl, ?_⟩
        refine hK.out _ _ ⟨(blk_cell BK104.out 0).trans rfl, (blk_cell BK104.out 1).trans rfl, (blk_cell BK104.out 2).trans rfl⟩ (fun hHeld => ?_)
        clear hK K
        refine norm_ (a' := ?_) ?_ ?_
        rotate_left
        · show Act.put _ (some 5) _ = _
          simp only [Act.put, List.setIfInBounds_toArray, List.set_cons_zero, List.set_cons_succ, i64_w, i32_w]
          rfl
        refine pure_ (i := 3) (N := some 6) (v := ?_) (a' := ?_) #[true, true, true, true, false, false, false, false, false, false, false, false, false, false, false, false, false, false, false, false, false, false, false, false, false, false] rfl rfl (any_of HT_.out (by kernel_rfl)) (fun _ _ _ h => h) (Or.inl ⟨by rfl, ?_⟩) ?_ ?_
        rotate_left
        · intro w'
          go_simp
          with_reducible rfl
        rotate_left
        · simp only [Act.put, List.setIfInBounds_toArray, List.set_cons_zero, List.set_cons_succ, i64_w, i32_w]
          rfl
        refine pure_ (i := 4) (N := some 7) (v := ?_) (a' := ?_) #[true, true, true, true, true, false, false, false, false, false, false, false, false, false, false, false, false, false, false, false, false, false, false, false, false, false] rfl rfl (any_of HT_.out (by kernel_rfl)) (fun _ _ _ h => h) (Or.inl ⟨by rfl, ?_⟩) ?_ ?_
        rotate_left
        · intro w'
          go_simp
          with_reducible rfl
        rotate_left
        · simp only [Act.put, List.setIfInBounds_toArray, List.set_cons_zero, List.set_cons_succ, i64_w, i32_w]
          rfl
        refine take_ (i := 5) (N := some 8) (v := ?_) (a' := ?_) #[true, true, true, true, true, true, false, false, false, false, false, false, false, false, false, false, false, false, false, false, false, false, false, false, false, false] rfl rfl (take_ofW HT_.out HW_.out (by kernel_rfl)) (fun _ _ _ h => h) (Or.inl ⟨by rfl, ?_⟩) hHeld ?_ ?_
        rotate_left
        · rintro w' ⟨s0, s1, s2⟩
          go_simp
          with_reducible rfl
        rotate_left
        · simp only [Act.put, List.setIfInBounds_toArray, List.set_cons_zero, List.set_cons_succ, i64_w, i32_w]
          rfl
        refine one_ (i := 6) (N := some 9) #[true, true, true, true, true, true, true, false, false, false, false, false, false, false, false, false, false, false, false, false, false, false, false, false, false, false] rfl rfl (one_of HT_.out (by kernel_rfl)) (by decide) (fun K hK => ?_)
        refine goes_ Tryd.func67 (by kernel_rfl) rfl #[.int .i64 a0_2, .int .i64 0, .int .i64 65536] (by rfl) rfl rfl (by (try simp only [List.map_toArray, List.map_cons, List.map_nil]); first | done | rfl | (simp only [List.length_drop, List.length_take]; rfl)) ?_
        with_reducible refine (pack_from.calls a0_2 0 65536 true _ A4.out).mono ?_
        rintro e w' ⟨rfl, ⟨nd, rfl⟩⟩
        refine ⟨_, rfl, ?_⟩
        refine hK.out _ _ ⟨(blk_cell BK104.out 0).trans rfl, (blk_cell BK104.out 1).trans rfl, (blk_cell BK104.out 2).trans rfl⟩ (fun hHeld => ?_)
        clear hK K
        refine norm_ (a' := ?_) ?_ ?_
        rotate_left
        · show Act.put _ (some 9) _ = _
          simp only [Act.put, List.setIfInBounds_toArray, List.set_cons_zero, List.set_cons_succ, i64_w, i32_w]
          rfl
        refine pure_ (i := 7) (N := some 10) (v := ?_) (a' := ?_) #[true, true, true, true, true, true, true, true, false, false, false, false, false, false, false, false, false, false, false, false, false, false, false, false, false, false] rfl rfl (any_of HT_.out (by kernel_rfl)) (fun _ _ _ h => h) (Or.inl ⟨by rfl, ?_⟩) ?_ ?_
        rotate_left
        · intro w'
          go_simp
          with_reducible rfl
        rotate_left
        · simp only [Act.put, List.setIfInBounds_toArray, List.set_cons_zero, List.set_cons_succ, i64_w, i32_w]
          rfl
        refine pure_ (i := 8) (N := some 11) (v := ?_) (a' := ?_) #[true, true, true, true, true, true, true, true, true, false, false, false, false, false, false, false, false, false, false, false, false, false, false, false, false, false] rfl rfl (any_of HT_.out (by kernel_rfl)) (fun _ _ _ h => h) (Or.inl ⟨by rfl, ?_⟩) ?_ ?_
        rotate_left
        · intro w'
          go_simp
          with_reducible rfl
        rotate_left
        · simp only [Act.put, List.setIfInBounds_toArray, List.set_cons_zero, List.set_cons_succ, i64_w, i32_w]
          rfl
        refine pure_ (i := 9) (N := some 12) (v := ?_) (a' := ?_) #[true, true, true, true, true, true, true, true, true, true, false, false, false, false, false, false, false, false, false, false, false, false, false, false, false, false] rfl rfl (any_of HT_.out (by kernel_rfl)) (fun _ _ _ h => h) (Or.inl ⟨by rfl, ?_⟩) ?_ ?_
        rotate_left
        · intro w'
          go_simp
          with_reducible rfl
        rotate_left
        · simp only [Act.put, List.setIfInBounds_toArray, List.set_cons_zero, List.set_cons_succ, i64_w, i32_w]
          rfl
        refine take_ (i := 10) (N := some 13) (v := ?_) (a' := ?_) #[true, true, true, true, true, true, true, true, true, true, true, false, false, false, false, false, false, false, false, false, false, false, false, false, false, false] rfl rfl (take_ofW HT_.out HW_.out (by kernel_rfl)) (fun _ _ _ h => h) (Or.inl ⟨by rfl, ?_⟩) hHeld ?_ ?_
        rotate_left
        · rintro w' ⟨s0, s1, s2⟩
          go_simp
          with_reducible rfl
        rotate_left
        · simp only [Act.put, List.setIfInBounds_toArray, List.set_cons_zero, List.set_cons_succ, i64_w, i32_w]
          rfl
        refine take_ (i := 11) (N := some 14) (v := ?_) (a' := ?_) #[true, true, true, true, true, true, true, true, true, true, true, true, false, false, false, false, false, false, false, false, false, false, false, false, false, false] rfl rfl (take_ofW HT_.out HW_.out (by kernel_rfl)) (fun _ _ _ h => h) (Or.inl ⟨by rfl, ?_⟩) hHeld ?_ ?_
        rotate_left
        · rintro w' ⟨s0, s1, s2⟩
          go_simp
          with_reducible rfl
        rotate_left
        · simp only [Act.put, List.setIfInBounds_toArray, List.set_cons_zero, List.set_cons_succ, i64_w, i32_w]
          rfl
        refine one_ (i := 12) (N := some 15) #[true, true, true, true, true, true, true, true, true, true, true, true, true, false, false, false, false, false, false, false, false, false, false, false, false, false] rfl rfl (one_of HT_.out (by kernel_rfl)) (by decide) (fun K hK => ?_)
        refine goes_ Tryd.func65 (by kernel_rfl) rfl #[.agg #[.int .i64 a0_0, .int .i64 a0_1, .int .i64 a0_2]] (by rfl) rfl rfl (by (try simp only [List.map_toArray, List.map_cons, List.map_nil]); first | done | rfl | (simp only [List.length_drop, List.length_take]; rfl)) ?_
        with_reducible refine (pack_hold.calls a0_0 a0_1 a0_2 t107 _ A6.out).mono ?_
        rintro e w18 ⟨rfl, hb⟩
        refine ⟨_, rfl, ?_⟩
        have n0_ := Aside0.mk (blk_below (g := gb104) (o := .cells #[.int .i64 a0_0, .int .i64 a0_1, .int .i64 a0_2] 48 (0, 0)) (by (with_reducible repeat (first | refine blk_drewN ?_ _ | refine blk_drew ?_ | refine blk_alloc ?_ _)); exact BK104.out) hb)
        have n1_ := Aside0.mk (below_step (by repeat (first | (with_reducible first | exact HB.out | apply below_alloc | apply pw_below_drewN | apply below_drew1 | refine below_set ?_ GE104.out) | exact HB.out)) hb)
        clear BK104
        clear HB
        have BK104 := n0_
        have HB := n1_
        clear n0_ n1_
        (try clear hb)
        (try clear hb2)
        (try clear hk)
        (try clear hi)
        refine hK.out _ _ ⟨(blk_cell BK104.out 0).trans rfl, (blk_cell BK104.out 1).trans rfl, (blk_cell BK104.out 2).trans rfl⟩ (fun hHeld => ?_)
        clear hK K
        refine norm_ (a' := ?_) ?_ ?_
        rotate_left
        · show Act.put _ (some 15) _ = _
          simp only [Act.put, List.setIfInBounds_toArray, List.set_cons_zero, List.set_cons_succ, i64_w, i32_w]
          rfl
        refine one_ (i := 13) (N := some 16) #[true, true, true, true, true, true, true, true, true, true, true, true, true, true, false, false, false, false, false, false, false, false, false, false, false, false] rfl rfl (one_of HT_.out (by kernel_rfl)) (by decide) (fun K hK => ?_)
        refine goes_ Tryd.func67 (by kernel_rfl) rfl #[.int .i64 a0_1, .int .i64 0, .int .i64 t107] (by rfl) rfl rfl (by (try simp only [List.map_toArray, List.map_cons, List.map_nil]); first | done | rfl | (simp only [List.length_drop, List.length_take]; rfl)) ?_
        with_reducible refine (pack_from.calls a0_1 0 t107 false _ A7.out).mono ?_
        rintro e w' ⟨rfl, ⟨nd, rfl⟩⟩
        refine ⟨_, rfl, ?_⟩
        refine hK.out _ _ ⟨(blk_cell BK104.out 0).trans rfl, (blk_cell BK104.out 1).trans rfl, (blk_cell BK104.out 2).trans rfl⟩ (fun hHeld => ?_)
        clear hK K
        refine norm_ (a' := ?_) ?_ ?_
        rotate_left
        · show Act.put _ (some 16) _ = _
          simp only [Act.put, List.setIfInBounds_toArray, List.set_cons_zero, List.set_cons_succ, i64_w, i32_w]
          rfl
        refine pure_ (i := 14) (N := some 17) (v := ?_) (a' := ?_) #[true, true, true, true, true, true, true, true, true, true, true, true, true, true, true, false, false, false, false, false, false, false, false, false, false, false] rfl rfl (any_of HT_.out (by kernel_rfl)) (fun _ _ _ h => h) (Or.inl ⟨by rfl, ?_⟩) ?_ ?_
        rotate_left
        · intro w'
          go_simp
          with_reducible rfl
        rotate_left
        · simp only [Act.put, List.setIfInBounds_toArray, List.set_cons_zero, List.set_cons_succ, i64_w, i32_w]
          rfl
        refine pure_ (i := 15) (N := some 18) (v := ?_) (a' := ?_) #[true, true, true, true, true, true, true, true, true, true, true, true, true, true, true, true, false, false, false, false, false, false, false, false, false, false] rfl rfl (any_of HT_.out (by kernel_rfl)) (fun _ _ _ h => h) (Or.inl ⟨by rfl, ?_⟩) ?_ ?_
        rotate_left
        · intro w'
          go_simp
          with_reducible rfl
        rotate_left
        · simp only [Act.put, List.setIfInBounds_toArray, List.set_cons_zero, List.set_cons_succ, i64_w, i32_w]
          rfl
        refine pure_ (i := 16) (N := some 19) (v := undef) (a' := ?_) #[true, true, true, true, true, true, true, true, true, true, true, true, true, true, true, true, true, false, false, false, false, false, false, false, false, false] rfl rfl (any_of HT_.out (by kernel_rfl)) (fun _ _ _ h => h) (Or.inr ⟨by rfl, rfl⟩) ?_ ?_
        rotate_left
        · simp only [Act.put, List.setIfInBounds_toArray, List.set_cons_zero, List.set_cons_succ, i64_w, i32_w]
          rfl
        refine pure_ (i := 17) (N := some 20) (v := undef) (a' := ?_) #[true, true, true, true, true, true, true, true, true, true, true, true, true, true, true, true, true, true, false, false, false, false, false, false, false, false] rfl rfl (any_of HT_.out (by kernel_rfl)) (fun _ _ _ h => h) (Or.inr ⟨by rfl, rfl⟩) ?_ ?_
        rotate_left
        · simp only [Act.put, List.setIfInBounds_toArray, List.set_cons_zero, List.set_cons_succ, i64_w, i32_w]
          rfl
        refine pure_ (i := 18) (N := some 21) (v := undef) (a' := ?_) #[true, true, true, true, true, true, true, true, true, true, true, true, true, true, true, true, true, true, true, false, false, false, false, false, false, false] rfl rfl (any_of HT_.out (by kernel_rfl)) (fun _ _ _ h => h) (Or.inr ⟨by rfl, rfl⟩) ?_ ?_
        rotate_left
        · simp only [Act.put, List.setIfInBounds_toArray, List.set_cons_zero, List.set_cons_succ, i64_w, i32_w]
          rfl
        refine pure_ (i := 19) (N := some 22) (v := undef) (a' := ?_) #[true, true, true, true, true, true, true, true, true, true, true, true, true, true, true, true, true, true, true, true, false, false, false, false, false, false] rfl rfl (any_of HT_.out (by kernel_rfl)) (fun _ _ _ h => h) (Or.inr ⟨by rfl, rfl⟩) ?_ ?_
        rotate_left
        · simp only [Act.put, List.setIfInBounds_toArray, List.set_cons_zero, List.set_cons_succ, i64_w, i32_w]
          rfl
        refine pure_ (i := 20) (N := some 23) (v := undef) (a' := ?_) #[true, true, true, true, true, true, true, true, true, true, true, true, true, true, true, true, true, true, true, true, true, false, false, false, false, false] rfl rfl (any_of HT_.out (by kernel_rfl)) (fun _ _ _ h => h) (Or.inr ⟨by rfl, rfl⟩) ?_ ?_
        rotate_left
        · simp only [Act.put, List.setIfInBounds_toArray, List.set_cons_zero, List.set_cons_succ, i64_w, i32_w]
          rfl
        refine pure_ (i := 21) (N := some 24) (v := undef) (a' := ?_) #[true, true, true, true, true, true, true, true, true, true, true, true, true, true, true, true, true, true, true, true, true, true, false, false, false, false] rfl rfl (any_of HT_.out (by kernel_rfl)) (fun _ _ _ h => h) (Or.inr ⟨by rfl, rfl⟩) ?_ ?_
        rotate_left
        · simp only [Act.put, List.setIfInBounds_toArray, List.set_cons_zero, List.set_cons_succ, i64_w, i32_w]
          rfl
        refine pure_ (i := 22) (N := some 25) (v := undef) (a' := ?_) #[true, true, true, true, true, true, true, true, true, true, true, true, true, true, true, true, true, true, true, true, true, true, true, false, false, false] rfl rfl (any_of HT_.out (by kernel_rfl)) (fun _ _ _ h => h) (Or.inr ⟨by rfl, rfl⟩) ?_ ?_
        rotate_left
        · simp only [Act.put, List.setIfInBounds_toArray, List.set_cons_zero, List.set_cons_succ, i64_w, i32_w]
          rfl
        refine pure_ (i := 23) (N := some 26) (v := undef) (a' := ?_) #[true, true, true, true, true, true, true, true, true, true, true, true, true, true, true, true, true, true, true, true, true, true, true, true, false, false] rfl rfl (any_of HT_.out (by kernel_rfl)) (fun _ _ _ h => h) (Or.inr ⟨by rfl, rfl⟩) ?_ ?_
        rotate_left
        · simp only [Act.put, List.setIfInBounds_toArray, List.set_cons_zero, List.set_cons_succ, i64_w, i32_w]
          rfl
        refine pure_ (i := 24) (N := some 27) (v := ?_) (a' := ?_) #[true, true, true, true, true, true, true, true, true, true, true, true, true, true, true, true, true, true, true, true, true, true, true, true, true, false] rfl rfl (any_of HT_.out (by kernel_rfl)) (fun _ _ _ h => h) (Or.inl ⟨by rfl, ?_⟩) ?_ ?_
        rotate_left
        · intro w'
          go_simp
          with_reducible rfl
        rotate_left
        · simp only [Act.put, List.setIfInBounds_toArray, List.set_cons_zero, List.set_cons_succ, i64_w, i32_w]
          rfl
        refine pure_ (i := 25) (N := some 2) (v := ?_) (a' := ?_) #[true, true, true, true, true, true, true, true, true, true, true, true, true, true, true, true, true, true, true, true, true, true, true, true, true, true] rfl rfl (any_of HT_.out (by kernel_rfl)) (fun _ _ _ h => h) (Or.inl ⟨by rfl, ?_⟩) ?_ ?_
        rotate_left
        · intro w'
          go_simp
          with_reducible rfl
        rotate_left
        · simp only [Act.put, List.setIfInBounds_toArray, List.set_cons_zero, List.set_cons_succ, i64_w, i32_w]
          rfl
        refine done_ (done_of HT_.out (by kernel_rfl)) ?_
        try go_wp2
        go_ret
        exact ⟨by first | rfl | (simp [errW_none, errW_some] <;> rfl) | (simp [*, errW_none, errW_some] <;> rfl), by repeat (first | (with_reducible first | exact HB.out | apply below_alloc | apply pw_below_drewN | apply below_drew1 | refine below_set ?_ GE104.out) | exact HB.out)⟩
    · replace c5 := Bool.eq_false_iff.mpr c5
      subst c5
      have H1 : (some false) = some r := by rw [if_neg (show ¬ (false = true) by decide)] at H; exact H
      clear H
      have H := H1
      clear H1
      obtain rfl := Option.some.inj H
      go_enter Tryd.func64, Tryd.ntmps64
      try go_wp2_with (first | ((with_reducible refine gate_dst (N := 1) rfl ?_); refine box_event ?hg (N := 1) ?hd (cs := #[.int .i64 a0_0, .int .i64 a0_1, .int .i64 a0_2]) (t := 48) ?hr ?_; (case hd => rfl); (case hg => rfl); (case hr => first | (go_simp; done) | (go_simp; rfl)); intro gb104 hg w19 hbox hb; have n0_ := Aside0.mk (below_step (by repeat (first | (with_reducible first | exact HB.out | apply below_alloc | apply pw_below_drewN | apply below_drew1) | exact HB.out)) hb); have n1_ := Aside0.mk (hbox); have n2_ := Aside0.mk ((by rw [hg]; exact (below_size (by repeat (first | (with_reducible first | exact HB.out | apply below_alloc | apply pw_below_drewN | apply below_drew1) | exact HB.out))) : w.heap.size ≤ gb104)); have n3_ := Aside0.mk ((by rw [hg]; exact (below_size (by repeat (first | (with_reducible first | exact HB.out | apply below_alloc | apply pw_below_drewN | apply below_drew1) | exact HB.out))) : w.heap.size ≤ gb104)); clear HB; have HB := n0_; have BK104 := n1_; have GW104 := n2_; have GE104 := n3_; clear n0_ n1_ n2_ n3_; clear hb hbox hg))
      have n0_ := Aside0.mk (blk_drew BK104.out)
      have n1_ := Aside0.mk (below_drew1 HB.out)
      clear BK104
      clear HB
      have BK104 := n0_
      have HB := n1_
      clear n0_ n1_
      refine start_ (n := 26) (S := fun w' => w'.cell? ⟨gb104, 0, none⟩ = some (.int .i64 a0_0) ∧ w'.cell? ⟨gb104, 1, none⟩ = some (.int .i64 a0_1) ∧ w'.cell? ⟨gb104, 2, none⟩ = some (.int .i64 a0_2)) (ds := []) #[false, false, false, false, false, false, false, false, false, false, false, false, false, false, false, false, false, false, false, false, false, false, false, false, false, false] (by kernel_rfl) rfl rfl ⟨(blk_cell BK104.out 0).trans rfl, (blk_cell BK104.out 1).trans rfl, (blk_cell BK104.out 2).trans rfl⟩ (fun hHeld => ?_); refine with_tabW pack_right.tab1 pack_right.bits1 (fun HT_ HW_ => ?_)
      generalize w19.drew = w20 at BK104 HB hHeld ⊢
      refine pure_ (i := 0) (N := some 3) (v := ?_) (a' := ?_) #[true, false, false, false, false, false, false, false, false, false, false, false, false, false, false, false, false, false, false, false, false, false, false, false, false, false] rfl rfl (any_of HT_.out (by kernel_rfl)) (fun _ _ _ h => h) (Or.inl ⟨by rfl, ?_⟩) ?_ ?_
      rotate_left
      · intro w'
        go_simp
        with_reducible rfl
      rotate_left
      · simp only [Act.put, List.setIfInBounds_toArray, List.set_cons_zero, List.set_cons_succ, i64_w, i32_w]
        rfl
      refine take_ (i := 1) (N := some 4) (v := ?_) (a' := ?_) #[true, true, false, false, false, false, false, false, false, false, false, false, false, false, false, false, false, false, false, false, false, false, false, false, false, false] rfl rfl (take_ofW HT_.out HW_.out (by kernel_rfl)) (fun _ _ _ h => h) (Or.inl ⟨by rfl, ?_⟩) hHeld ?_ ?_
      rotate_left
      · rintro w' ⟨s0, s1, s2⟩
        go_simp
        with_reducible rfl
      rotate_left
      · simp only [Act.put, List.setIfInBounds_toArray, List.set_cons_zero, List.set_cons_succ, i64_w, i32_w]
        rfl
      refine one_ (i := 2) (N := some 5) #[true, true, true, false, false, false, false, false, false, false, false, false, false, false, false, false, false, false, false, false, false, false, false, false, false, false] rfl rfl (one_of HT_.out (by kernel_rfl)) (by decide) (fun K hK => ?_)
      refine goes_ Tryd.func67 (by kernel_rfl) rfl #[.int .i64 a0_0, .int .i64 1, .int .i64 65536] (by rfl) rfl rfl (by (try simp only [List.map_toArray, List.map_cons, List.map_nil]); first | done | rfl | (simp only [List.length_drop, List.length_take]; rfl)) ?_
      with_reducible refine (pack_from.calls a0_0 1 65536 true _ A2.out).mono ?_
      rintro e w' ⟨rfl, ⟨nd, rfl⟩⟩
      refine ⟨_, rfl, ?_⟩
      refine hK.out _ _ ⟨(blk_cell BK104.out 0).trans rfl, (blk_cell BK104.out 1).trans rfl, (blk_cell BK104.out 2).trans rfl⟩ (fun hHeld => ?_)
      clear hK K
      refine norm_ (a' := ?_) ?_ ?_
      rotate_left
      · show Act.put _ (some 5) _ = _
        simp only [Act.put, List.setIfInBounds_toArray, List.set_cons_zero, List.set_cons_succ, i64_w, i32_w]
        rfl
      refine pure_ (i := 3) (N := some 6) (v := ?_) (a' := ?_) #[true, true, true, true, false, false, false, false, false, false, false, false, false, false, false, false, false, false, false, false, false, false, false, false, false, false] rfl rfl (any_of HT_.out (by kernel_rfl)) (fun _ _ _ h => h) (Or.inl ⟨by rfl, ?_⟩) ?_ ?_
      rotate_left
      · intro w'
        go_simp
        with_reducible rfl
      rotate_left
      · simp only [Act.put, List.setIfInBounds_toArray, List.set_cons_zero, List.set_cons_succ, i64_w, i32_w]
        rfl
      refine pure_ (i := 4) (N := some 7) (v := ?_) (a' := ?_) #[true, true, true, true, true, false, false, false, false, false, false, false, false, false, false, false, false, false, false, false, false, false, false, false, false, false] rfl rfl (any_of HT_.out (by kernel_rfl)) (fun _ _ _ h => h) (Or.inl ⟨by rfl, ?_⟩) ?_ ?_
      rotate_left
      · intro w'
        go_simp
        with_reducible rfl
      rotate_left
      · simp only [Act.put, List.setIfInBounds_toArray, List.set_cons_zero, List.set_cons_succ, i64_w, i32_w]
        rfl
      refine take_ (i := 5) (N := some 8) (v := ?_) (a' := ?_) #[true, true, true, true, true, true, false, false, false, false, false, false, false, false, false, false, false, false, false, false, false, false, false, false, false, false] rfl rfl (take_ofW HT_.out HW_.out (by kernel_rfl)) (fun _ _ _ h => h) (Or.inl ⟨by rfl, ?_⟩) hHeld ?_ ?_
      rotate_left
      · rintro w' ⟨s0, s1, s2⟩
        go_simp
        with_reducible rfl
      rotate_left
      · simp only [Act.put, List.setIfInBounds_toArray, List.set_cons_zero, List.set_cons_succ, i64_w, i32_w]
        rfl
      refine one_ (i := 6) (N := some 9) #[true, true, true, true, true, true, true, false, false, false, false, false, false, false, false, false, false, false, false, false, false, false, false, false, false, false] rfl rfl (one_of HT_.out (by kernel_rfl)) (by decide) (fun K hK => ?_)
      refine goes_ Tryd.func67 (by kernel_rfl) rfl #[.int .i64 a0_2, .int .i64 0, .int .i64 65536] (by rfl) rfl rfl (by (try simp only [List.map_toArray, List.map_cons, List.map_nil]); first | done | rfl | (simp only [List.length_drop, List.length_take]; rfl)) ?_
      with_reducible refine (pack_from.calls a0_2 0 65536 false _ A4.out).mono ?_
      rintro e w' ⟨rfl, ⟨nd, rfl⟩⟩
      refine ⟨_, rfl, ?_⟩
      refine hK.out _ _ ⟨(blk_cell BK104.out 0).trans rfl, (blk_cell BK104.out 1).trans rfl, (blk_cell BK104.out 2).trans rfl⟩ (fun hHeld => ?_)
      clear hK K
      refine norm_ (a' := ?_) ?_ ?_
      rotate_left
      · show Act.put _ (some 9) _ = _
        simp only [Act.put, List.setIfInBounds_toArray, List.set_cons_zero, List.set_cons_succ, i64_w, i32_w]
        rfl
      refine pure_ (i := 7) (N := some 10) (v := ?_) (a' := ?_) #[true, true, true, true, true, true, true, true, false, false, false, false, false, false, false, false, false, false, false, false, false, false, false, false, false, false] rfl rfl (any_of HT_.out (by kernel_rfl)) (fun _ _ _ h => h) (Or.inl ⟨by rfl, ?_⟩) ?_ ?_
      rotate_left
      · intro w'
        go_simp
        with_reducible rfl
      rotate_left
      · simp only [Act.put, List.setIfInBounds_toArray, List.set_cons_zero, List.set_cons_succ, i64_w, i32_w]
        rfl
      refine pure_ (i := 8) (N := some 11) (v := ?_) (a' := ?_) #[true, true, true, true, true, true, true, true, true, false, false, false, false, false, false, false, false, false, false, false, false, false, false, false, false, false] rfl rfl (any_of HT_.out (by kernel_rfl)) (fun _ _ _ h => h) (Or.inl ⟨by rfl, ?_⟩) ?_ ?_
      rotate_left
      · intro w'
        go_simp
        with_reducible rfl
      rotate_left
      · simp only [Act.put, List.setIfInBounds_toArray, List.set_cons_zero, List.set_cons_succ, i64_w, i32_w]
        rfl
      refine pure_ (i := 9) (N := some 12) (v := undef) (a' := ?_) #[true, true, true, true, true, true, true, true, true, true, false, false, false, false, false, false, false, false, false, false, false, false, false, false, false, false] rfl rfl (any_of HT_.out (by kernel_rfl)) (fun _ _ _ h => h) (Or.inr ⟨by rfl, rfl⟩) ?_ ?_
      rotate_left
      · simp only [Act.put, List.setIfInBounds_toArray, List.set_cons_zero, List.set_cons_succ, i64_w, i32_w]
        rfl
      refine pure_ (i := 10) (N := some 13) (v := undef) (a' := ?_) #[true, true, true, true, true, true, true, true, true, true, true, false, false, false, false, false, false, false, false, false, false, false, false, false, false, false] rfl rfl (any_of HT_.out (by kernel_rfl)) (fun _ _ _ h => h) (Or.inr ⟨by rfl, rfl⟩) ?_ ?_
      rotate_left
      · simp only [Act.put, List.setIfInBounds_toArray, List.set_cons_zero, List.set_cons_succ, i64_w, i32_w]
        rfl
      refine pure_ (i := 11) (N := some 14) (v := undef) (a' := ?_) #[true, true, true, true, true, true, true, true, true, true, true, true, false, false, false, false, false, false, false, false, false, false, false, false, false, false] rfl rfl (any_of HT_.out (by kernel_rfl)) (fun _ _ _ h => h) (Or.inr ⟨by rfl, rfl⟩) ?_ ?_
      rotate_left
      · simp only [Act.put, List.setIfInBounds_toArray, List.set_cons_zero, List.set_cons_succ, i64_w, i32_w]
        rfl
      refine pure_ (i := 12) (N := some 15) (v := undef) (a' := ?_) #[true, true, true, true, true, true, true, true, true, true, true, true, true, false, false, false, false, false, false, false, false, false, false, false, false, false] rfl rfl (any_of HT_.out (by kernel_rfl)) (fun _ _ _ h => h) (Or.inr ⟨by rfl, rfl⟩) ?_ ?_
      rotate_left
      · simp only [Act.put, List.setIfInBounds_toArray, List.set_cons_zero, List.set_cons_succ, i64_w, i32_w]
        rfl
      refine pure_ (i := 13) (N := some 16) (v := undef) (a' := ?_) #[true, true, true, true, true, true, true, true, true, true, true, true, true, true, false, false, false, false, false, false, false, false, false, false, false, false] rfl rfl (any_of HT_.out (by kernel_rfl)) (fun _ _ _ h => h) (Or.inr ⟨by rfl, rfl⟩) ?_ ?_
      rotate_left
      · simp only [Act.put, List.setIfInBounds_toArray, List.set_cons_zero, List.set_cons_succ, i64_w, i32_w]
        rfl
      refine pure_ (i := 14) (N := some 17) (v := ?_) (a' := ?_) #[true, true, true, true, true, true, true, true, true, true, true, true, true, true, true, false, false, false, false, false, false, false, false, false, false, false] rfl rfl (any_of HT_.out (by kernel_rfl)) (fun _ _ _ h => h) (Or.inl ⟨by rfl, ?_⟩) ?_ ?_
      rotate_left
      · intro w'
        go_simp
        with_reducible rfl
      rotate_left
      · simp only [Act.put, List.setIfInBounds_toArray, List.set_cons_zero, List.set_cons_succ, i64_w, i32_w]
        rfl
      refine pure_ (i := 15) (N := some 18) (v := ?_) (a' := ?_) #[true, true, true, true, true, true, true, true, true, true, true, true, true, true, true, true, false, false, false, false, false, false, false, false, false, false] rfl rfl (any_of HT_.out (by kernel_rfl)) (fun _ _ _ h => h) (Or.inl ⟨by rfl, ?_⟩) ?_ ?_
      rotate_left
      · intro w'
        go_simp
        with_reducible rfl
      rotate_left
      · simp only [Act.put, List.setIfInBounds_toArray, List.set_cons_zero, List.set_cons_succ, i64_w, i32_w]
        rfl
      refine pure_ (i := 16) (N := some 19) (v := undef) (a' := ?_) #[true, true, true, true, true, true, true, true, true, true, true, true, true, true, true, true, true, false, false, false, false, false, false, false, false, false] rfl rfl (any_of HT_.out (by kernel_rfl)) (fun _ _ _ h => h) (Or.inr ⟨by rfl, rfl⟩) ?_ ?_
      rotate_left
      · simp only [Act.put, List.setIfInBounds_toArray, List.set_cons_zero, List.set_cons_succ, i64_w, i32_w]
        rfl
      refine pure_ (i := 17) (N := some 20) (v := undef) (a' := ?_) #[true, true, true, true, true, true, true, true, true, true, true, true, true, true, true, true, true, true, false, false, false, false, false, false, false, false] rfl rfl (any_of HT_.out (by kernel_rfl)) (fun _ _ _ h => h) (Or.inr ⟨by rfl, rfl⟩) ?_ ?_
      rotate_left
      · simp only [Act.put, List.setIfInBounds_toArray, List.set_cons_zero, List.set_cons_succ, i64_w, i32_w]
        rfl
      refine pure_ (i := 18) (N := some 21) (v := undef) (a' := ?_) #[true, true, true, true, true, true, true, true, true, true, true, true, true, true, true, true, true, true, true, false, false, false, false, false, false, false] rfl rfl (any_of HT_.out (by kernel_rfl)) (fun _ _ _ h => h) (Or.inr ⟨by rfl, rfl⟩) ?_ ?_
      rotate_left
      · simp only [Act.put, List.setIfInBounds_toArray, List.set_cons_zero, List.set_cons_succ, i64_w, i32_w]
        rfl
      refine pure_ (i := 19) (N := some 22) (v := undef) (a' := ?_) #[true, true, true, true, true, true, true, true, true, true, true, true, true, true, true, true, true, true, true, true, false, false, false, false, false, false] rfl rfl (any_of HT_.out (by kernel_rfl)) (fun _ _ _ h => h) (Or.inr ⟨by rfl, rfl⟩) ?_ ?_
      rotate_left
      · simp only [Act.put, List.setIfInBounds_toArray, List.set_cons_zero, List.set_cons_succ, i64_w, i32_w]
        rfl
      refine pure_ (i := 20) (N := some 23) (v := undef) (a' := ?_) #[true, true, true, true, true, true, true, true, true, true, true, true, true, true, true, true, true, true, true, true, true, false, false, false, false, false] rfl rfl (any_of HT_.out (by kernel_rfl)) (fun _ _ _ h => h) (Or.inr ⟨by rfl, rfl⟩) ?_ ?_
      rotate_left
      · simp only [Act.put, List.setIfInBounds_toArray, List.set_cons_zero, List.set_cons_succ, i64_w, i32_w]
        rfl
      refine pure_ (i := 21) (N := some 24) (v := undef) (a' := ?_) #[true, true, true, true, true, true, true, true, true, true, true, true, true, true, true, true, true, true, true, true, true, true, false, false, false, false] rfl rfl (any_of HT_.out (by kernel_rfl)) (fun _ _ _ h => h) (Or.inr ⟨by rfl, rfl⟩) ?_ ?_
      rotate_left
      · simp only [Act.put, List.setIfInBounds_toArray, List.set_cons_zero, List.set_cons_succ, i64_w, i32_w]
        rfl
      refine pure_ (i := 22) (N := some 25) (v := undef) (a' := ?_) #[true, true, true, true, true, true, true, true, true, true, true, true, true, true, true, true, true, true, true, true, true, true, true, false, false, false] rfl rfl (any_of HT_.out (by kernel_rfl)) (fun _ _ _ h => h) (Or.inr ⟨by rfl, rfl⟩) ?_ ?_
      rotate_left
      · simp only [Act.put, List.setIfInBounds_toArray, List.set_cons_zero, List.set_cons_succ, i64_w, i32_w]
        rfl
      refine pure_ (i := 23) (N := some 26) (v := undef) (a' := ?_) #[true, true, true, true, true, true, true, true, true, true, true, true, true, true, true, true, true, true, true, true, true, true, true, true, false, false] rfl rfl (any_of HT_.out (by kernel_rfl)) (fun _ _ _ h => h) (Or.inr ⟨by rfl, rfl⟩) ?_ ?_
      rotate_left
      · simp only [Act.put, List.setIfInBounds_toArray, List.set_cons_zero, List.set_cons_succ, i64_w, i32_w]
        rfl
      refine pure_ (i := 24) (N := some 27) (v := ?_) (a' := ?_) #[true, true, true, true, true, true, true, true, true, true, true, true, true, true, true, true, true, true, true, true, true, true, true, true, true, false] rfl rfl (any_of HT_.out (by kernel_rfl)) (fun _ _ _ h => h) (Or.inl ⟨by rfl, ?_⟩) ?_ ?_
      rotate_left
      · intro w'
        go_simp
        with_reducible rfl
      rotate_left
      · simp only [Act.put, List.setIfInBounds_toArray, List.set_cons_zero, List.set_cons_succ, i64_w, i32_w]
        rfl
      refine pure_ (i := 25) (N := some 2) (v := ?_) (a' := ?_) #[true, true, true, true, true, true, true, true, true, true, true, true, true, true, true, true, true, true, true, true, true, true, true, true, true, true] rfl rfl (any_of HT_.out (by kernel_rfl)) (fun _ _ _ h => h) (Or.inl ⟨by rfl, ?_⟩) ?_ ?_
      rotate_left
      · intro w'
        go_simp
        with_reducible rfl
      rotate_left
      · simp only [Act.put, List.setIfInBounds_toArray, List.set_cons_zero, List.set_cons_succ, i64_w, i32_w]
        rfl
      refine done_ (done_of HT_.out (by kernel_rfl)) ?_
      try go_wp2
      go_ret
      exact ⟨by first | rfl | (simp [errW_none, errW_some] <;> rfl) | (simp [*, errW_none, errW_some] <;> rfl), by repeat (first | (with_reducible first | exact HB.out | apply below_alloc | apply pw_below_drewN | apply below_drew1 | refine below_set ?_ GE104.out) | exact HB.out)⟩
  · replace c3 := Bool.eq_false_iff.mpr c3
    subst c3
    have H1 : (some false) = some r := by rw [if_neg (show ¬ (false = true) by decide)] at H; exact H
    clear H
    have H := H1
    clear H1
    obtain rfl := Option.some.inj H
    go_enter Tryd.func64, Tryd.ntmps64
    try go_wp2_with (first | ((with_reducible refine gate_dst (N := 1) rfl ?_); refine box_event ?hg (N := 1) ?hd (cs := #[.int .i64 a0_0, .int .i64 a0_1, .int .i64 a0_2]) (t := 48) ?hr ?_; (case hd => rfl); (case hg => rfl); (case hr => first | (go_simp; done) | (go_simp; rfl)); intro gb104 hg w21 hbox hb; have n0_ := Aside0.mk (below_step (by repeat (first | (with_reducible first | exact HB.out | apply below_alloc | apply pw_below_drewN | apply below_drew1) | exact HB.out)) hb); have n1_ := Aside0.mk (hbox); have n2_ := Aside0.mk ((by rw [hg]; exact (below_size (by repeat (first | (with_reducible first | exact HB.out | apply below_alloc | apply pw_below_drewN | apply below_drew1) | exact HB.out))) : w.heap.size ≤ gb104)); have n3_ := Aside0.mk ((by rw [hg]; exact (below_size (by repeat (first | (with_reducible first | exact HB.out | apply below_alloc | apply pw_below_drewN | apply below_drew1) | exact HB.out))) : w.heap.size ≤ gb104)); clear HB; have HB := n0_; have BK104 := n1_; have GW104 := n2_; have GE104 := n3_; clear n0_ n1_ n2_ n3_; clear hb hbox hg))
    have n0_ := Aside0.mk (blk_drew BK104.out)
    have n1_ := Aside0.mk (below_drew1 HB.out)
    clear BK104
    clear HB
    have BK104 := n0_
    have HB := n1_
    clear n0_ n1_
    refine start_ (n := 26) (S := fun w' => w'.cell? ⟨gb104, 0, none⟩ = some (.int .i64 a0_0) ∧ w'.cell? ⟨gb104, 1, none⟩ = some (.int .i64 a0_1) ∧ w'.cell? ⟨gb104, 2, none⟩ = some (.int .i64 a0_2)) (ds := []) #[false, false, false, false, false, false, false, false, false, false, false, false, false, false, false, false, false, false, false, false, false, false, false, false, false, false] (by kernel_rfl) rfl rfl ⟨(blk_cell BK104.out 0).trans rfl, (blk_cell BK104.out 1).trans rfl, (blk_cell BK104.out 2).trans rfl⟩ (fun hHeld => ?_); refine with_tabW pack_right.tab1 pack_right.bits1 (fun HT_ HW_ => ?_)
    generalize w21.drew = w22 at BK104 HB hHeld ⊢
    refine pure_ (i := 0) (N := some 3) (v := ?_) (a' := ?_) #[true, false, false, false, false, false, false, false, false, false, false, false, false, false, false, false, false, false, false, false, false, false, false, false, false, false] rfl rfl (any_of HT_.out (by kernel_rfl)) (fun _ _ _ h => h) (Or.inl ⟨by rfl, ?_⟩) ?_ ?_
    rotate_left
    · intro w'
      go_simp
      with_reducible rfl
    rotate_left
    · simp only [Act.put, List.setIfInBounds_toArray, List.set_cons_zero, List.set_cons_succ, i64_w, i32_w]
      rfl
    refine take_ (i := 1) (N := some 4) (v := ?_) (a' := ?_) #[true, true, false, false, false, false, false, false, false, false, false, false, false, false, false, false, false, false, false, false, false, false, false, false, false, false] rfl rfl (take_ofW HT_.out HW_.out (by kernel_rfl)) (fun _ _ _ h => h) (Or.inl ⟨by rfl, ?_⟩) hHeld ?_ ?_
    rotate_left
    · rintro w' ⟨s0, s1, s2⟩
      go_simp
      with_reducible rfl
    rotate_left
    · simp only [Act.put, List.setIfInBounds_toArray, List.set_cons_zero, List.set_cons_succ, i64_w, i32_w]
      rfl
    refine one_ (i := 2) (N := some 5) #[true, true, true, false, false, false, false, false, false, false, false, false, false, false, false, false, false, false, false, false, false, false, false, false, false, false] rfl rfl (one_of HT_.out (by kernel_rfl)) (by decide) (fun K hK => ?_)
    refine goes_ Tryd.func67 (by kernel_rfl) rfl #[.int .i64 a0_0, .int .i64 1, .int .i64 65536] (by rfl) rfl rfl (by (try simp only [List.map_toArray, List.map_cons, List.map_nil]); first | done | rfl | (simp only [List.length_drop, List.length_take]; rfl)) ?_
    with_reducible refine (pack_from.calls a0_0 1 65536 false _ A2.out).mono ?_
    rintro e w' ⟨rfl, ⟨nd, rfl⟩⟩
    refine ⟨_, rfl, ?_⟩
    refine hK.out _ _ ⟨(blk_cell BK104.out 0).trans rfl, (blk_cell BK104.out 1).trans rfl, (blk_cell BK104.out 2).trans rfl⟩ (fun hHeld => ?_)
    clear hK K
    refine norm_ (a' := ?_) ?_ ?_
    rotate_left
    · show Act.put _ (some 5) _ = _
      simp only [Act.put, List.setIfInBounds_toArray, List.set_cons_zero, List.set_cons_succ, i64_w, i32_w]
      rfl
    refine pure_ (i := 3) (N := some 6) (v := ?_) (a' := ?_) #[true, true, true, true, false, false, false, false, false, false, false, false, false, false, false, false, false, false, false, false, false, false, false, false, false, false] rfl rfl (any_of HT_.out (by kernel_rfl)) (fun _ _ _ h => h) (Or.inl ⟨by rfl, ?_⟩) ?_ ?_
    rotate_left
    · intro w'
      go_simp
      with_reducible rfl
    rotate_left
    · simp only [Act.put, List.setIfInBounds_toArray, List.set_cons_zero, List.set_cons_succ, i64_w, i32_w]
      rfl
    refine pure_ (i := 4) (N := some 7) (v := undef) (a' := ?_) #[true, true, true, true, true, false, false, false, false, false, false, false, false, false, false, false, false, false, false, false, false, false, false, false, false, false] rfl rfl (any_of HT_.out (by kernel_rfl)) (fun _ _ _ h => h) (Or.inr ⟨by rfl, rfl⟩) ?_ ?_
    rotate_left
    · simp only [Act.put, List.setIfInBounds_toArray, List.set_cons_zero, List.set_cons_succ, i64_w, i32_w]
      rfl
    refine pure_ (i := 5) (N := some 8) (v := undef) (a' := ?_) #[true, true, true, true, true, true, false, false, false, false, false, false, false, false, false, false, false, false, false, false, false, false, false, false, false, false] rfl rfl (any_of HT_.out (by kernel_rfl)) (fun _ _ _ h => h) (Or.inr ⟨by rfl, rfl⟩) ?_ ?_
    rotate_left
    · simp only [Act.put, List.setIfInBounds_toArray, List.set_cons_zero, List.set_cons_succ, i64_w, i32_w]
      rfl
    refine pure_ (i := 6) (N := some 9) (v := undef) (a' := ?_) #[true, true, true, true, true, true, true, false, false, false, false, false, false, false, false, false, false, false, false, false, false, false, false, false, false, false] rfl rfl (any_of HT_.out (by kernel_rfl)) (fun _ _ _ h => h) (Or.inr ⟨by rfl, rfl⟩) ?_ ?_
    rotate_left
    · simp only [Act.put, List.setIfInBounds_toArray, List.set_cons_zero, List.set_cons_succ, i64_w, i32_w]
      rfl
    refine pure_ (i := 7) (N := some 10) (v := ?_) (a' := ?_) #[true, true, true, true, true, true, true, true, false, false, false, false, false, false, false, false, false, false, false, false, false, false, false, false, false, false] rfl rfl (any_of HT_.out (by kernel_rfl)) (fun _ _ _ h => h) (Or.inl ⟨by rfl, ?_⟩) ?_ ?_
    rotate_left
    · intro w'
      go_simp
      with_reducible rfl
    rotate_left
    · simp only [Act.put, List.setIfInBounds_toArray, List.set_cons_zero, List.set_cons_succ, i64_w, i32_w]
      rfl
    refine pure_ (i := 8) (N := some 11) (v := ?_) (a' := ?_) #[true, true, true, true, true, true, true, true, true, false, false, false, false, false, false, false, false, false, false, false, false, false, false, false, false, false] rfl rfl (any_of HT_.out (by kernel_rfl)) (fun _ _ _ h => h) (Or.inl ⟨by rfl, ?_⟩) ?_ ?_
    rotate_left
    · intro w'
      go_simp
      with_reducible rfl
    rotate_left
    · simp only [Act.put, List.setIfInBounds_toArray, List.set_cons_zero, List.set_cons_succ, i64_w, i32_w]
      rfl
    refine pure_ (i := 9) (N := some 12) (v := undef) (a' := ?_) #[true, true, true, true, true, true, true, true, true, true, false, false, false, false, false, false, false, false, false, false, false, false, false, false, false, false] rfl rfl (any_of HT_.out (by kernel_rfl)) (fun _ _ _ h => h) (Or.inr ⟨by rfl, rfl⟩) ?_ ?_
    rotate_left
    · simp only [Act.put, List.setIfInBounds_toArray, List.set_cons_zero, List.set_cons_succ, i64_w, i32_w]
      rfl
    refine pure_ (i := 10) (N := some 13) (v := undef) (a' := ?_) #[true, true, true, true, true, true, true, true, true, true, true, false, false, false, false, false, false, false, false, false, false, false, false, false, false, false] rfl rfl (any_of HT_.out (by kernel_rfl)) (fun _ _ _ h => h) (Or.inr ⟨by rfl, rfl⟩) ?_ ?_
    rotate_left
    · simp only [Act.put, List.setIfInBounds_toArray, List.set_cons_zero, List.set_cons_succ, i64_w, i32_w]
      rfl
    refine pure_ (i := 11) (N := some 14) (v := undef) (a' := ?_) #[true, true, true, true, true, true, true, true, true, true, true, true, false, false, false, false, false, false, false, false, false, false, false, false, false, false] rfl rfl (any_of HT_.out (by kernel_rfl)) (fun _ _ _ h => h) (Or.inr ⟨by rfl, rfl⟩) ?_ ?_
    rotate_left
    · simp only [Act.put, List.setIfInBounds_toArray, List.set_cons_zero, List.set_cons_succ, i64_w, i32_w]
      rfl
    refine pure_ (i := 12) (N := some 15) (v := undef) (a' := ?_) #[true, true, true, true, true, true, true, true, true, true, true, true, true, false, false, false, false, false, false, false, false, false, false, false, false, false] rfl rfl (any_of HT_.out (by kernel_rfl)) (fun _ _ _ h => h) (Or.inr ⟨by rfl, rfl⟩) ?_ ?_
    rotate_left
    · simp only [Act.put, List.setIfInBounds_toArray, List.set_cons_zero, List.set_cons_succ, i64_w, i32_w]
      rfl
    refine pure_ (i := 13) (N := some 16) (v := undef) (a' := ?_) #[true, true, true, true, true, true, true, true, true, true, true, true, true, true, false, false, false, false, false, false, false, false, false, false, false, false] rfl rfl (any_of HT_.out (by kernel_rfl)) (fun _ _ _ h => h) (Or.inr ⟨by rfl, rfl⟩) ?_ ?_
    rotate_left
    · simp only [Act.put, List.setIfInBounds_toArray, List.set_cons_zero, List.set_cons_succ, i64_w, i32_w]
      rfl
    refine pure_ (i := 14) (N := some 17) (v := ?_) (a' := ?_) #[true, true, true, true, true, true, true, true, true, true, true, true, true, true, true, false, false, false, false, false, false, false, false, false, false, false] rfl rfl (any_of HT_.out (by kernel_rfl)) (fun _ _ _ h => h) (Or.inl ⟨by rfl, ?_⟩) ?_ ?_
    rotate_left
    · intro w'
      go_simp
      with_reducible rfl
    rotate_left
    · simp only [Act.put, List.setIfInBounds_toArray, List.set_cons_zero, List.set_cons_succ, i64_w, i32_w]
      rfl
    refine pure_ (i := 15) (N := some 18) (v := ?_) (a' := ?_) #[true, true, true, true, true, true, true, true, true, true, true, true, true, true, true, true, false, false, false, false, false, false, false, false, false, false] rfl rfl (any_of HT_.out (by kernel_rfl)) (fun _ _ _ h => h) (Or.inl ⟨by rfl, ?_⟩) ?_ ?_
    rotate_left
    · intro w'
      go_simp
      with_reducible rfl
    rotate_left
    · simp only [Act.put, List.setIfInBounds_toArray, List.set_cons_zero, List.set_cons_succ, i64_w, i32_w]
      rfl
    refine pure_ (i := 16) (N := some 19) (v := undef) (a' := ?_) #[true, true, true, true, true, true, true, true, true, true, true, true, true, true, true, true, true, false, false, false, false, false, false, false, false, false] rfl rfl (any_of HT_.out (by kernel_rfl)) (fun _ _ _ h => h) (Or.inr ⟨by rfl, rfl⟩) ?_ ?_
    rotate_left
    · simp only [Act.put, List.setIfInBounds_toArray, List.set_cons_zero, List.set_cons_succ, i64_w, i32_w]
      rfl
    refine pure_ (i := 17) (N := some 20) (v := undef) (a' := ?_) #[true, true, true, true, true, true, true, true, true, true, true, true, true, true, true, true, true, true, false, false, false, false, false, false, false, false] rfl rfl (any_of HT_.out (by kernel_rfl)) (fun _ _ _ h => h) (Or.inr ⟨by rfl, rfl⟩) ?_ ?_
    rotate_left
    · simp only [Act.put, List.setIfInBounds_toArray, List.set_cons_zero, List.set_cons_succ, i64_w, i32_w]
      rfl
    refine pure_ (i := 18) (N := some 21) (v := undef) (a' := ?_) #[true, true, true, true, true, true, true, true, true, true, true, true, true, true, true, true, true, true, true, false, false, false, false, false, false, false] rfl rfl (any_of HT_.out (by kernel_rfl)) (fun _ _ _ h => h) (Or.inr ⟨by rfl, rfl⟩) ?_ ?_
    rotate_left
    · simp only [Act.put, List.setIfInBounds_toArray, List.set_cons_zero, List.set_cons_succ, i64_w, i32_w]
      rfl
    refine pure_ (i := 19) (N := some 22) (v := undef) (a' := ?_) #[true, true, true, true, true, true, true, true, true, true, true, true, true, true, true, true, true, true, true, true, false, false, false, false, false, false] rfl rfl (any_of HT_.out (by kernel_rfl)) (fun _ _ _ h => h) (Or.inr ⟨by rfl, rfl⟩) ?_ ?_
    rotate_left
    · simp only [Act.put, List.setIfInBounds_toArray, List.set_cons_zero, List.set_cons_succ, i64_w, i32_w]
      rfl
    refine pure_ (i := 20) (N := some 23) (v := undef) (a' := ?_) #[true, true, true, true, true, true, true, true, true, true, true, true, true, true, true, true, true, true, true, true, true, false, false, false, false, false] rfl rfl (any_of HT_.out (by kernel_rfl)) (fun _ _ _ h => h) (Or.inr ⟨by rfl, rfl⟩) ?_ ?_
    rotate_left
    · simp only [Act.put, List.setIfInBounds_toArray, List.set_cons_zero, List.set_cons_succ, i64_w, i32_w]
      rfl
    refine pure_ (i := 21) (N := some 24) (v := undef) (a' := ?_) #[true, true, true, true, true, true, true, true, true, true, true, true, true, true, true, true, true, true, true, true, true, true, false, false, false, false] rfl rfl (any_of HT_.out (by kernel_rfl)) (fun _ _ _ h => h) (Or.inr ⟨by rfl, rfl⟩) ?_ ?_
    rotate_left
    · simp only [Act.put, List.setIfInBounds_toArray, List.set_cons_zero, List.set_cons_succ, i64_w, i32_w]
      rfl
    refine pure_ (i := 22) (N := some 25) (v := undef) (a' := ?_) #[true, true, true, true, true, true, true, true, true, true, true, true, true, true, true, true, true, true, true, true, true, true, true, false, false, false] rfl rfl (any_of HT_.out (by kernel_rfl)) (fun _ _ _ h => h) (Or.inr ⟨by rfl, rfl⟩) ?_ ?_
    rotate_left
    · simp only [Act.put, List.setIfInBounds_toArray, List.set_cons_zero, List.set_cons_succ, i64_w, i32_w]
      rfl
    refine pure_ (i := 23) (N := some 26) (v := undef) (a' := ?_) #[true, true, true, true, true, true, true, true, true, true, true, true, true, true, true, true, true, true, true, true, true, true, true, true, false, false] rfl rfl (any_of HT_.out (by kernel_rfl)) (fun _ _ _ h => h) (Or.inr ⟨by rfl, rfl⟩) ?_ ?_
    rotate_left
    · simp only [Act.put, List.setIfInBounds_toArray, List.set_cons_zero, List.set_cons_succ, i64_w, i32_w]
      rfl
    refine pure_ (i := 24) (N := some 27) (v := ?_) (a' := ?_) #[true, true, true, true, true, true, true, true, true, true, true, true, true, true, true, true, true, true, true, true, true, true, true, true, true, false] rfl rfl (any_of HT_.out (by kernel_rfl)) (fun _ _ _ h => h) (Or.inl ⟨by rfl, ?_⟩) ?_ ?_
    rotate_left
    · intro w'
      go_simp
      with_reducible rfl
    rotate_left
    · simp only [Act.put, List.setIfInBounds_toArray, List.set_cons_zero, List.set_cons_succ, i64_w, i32_w]
      rfl
    refine pure_ (i := 25) (N := some 2) (v := ?_) (a' := ?_) #[true, true, true, true, true, true, true, true, true, true, true, true, true, true, true, true, true, true, true, true, true, true, true, true, true, true] rfl rfl (any_of HT_.out (by kernel_rfl)) (fun _ _ _ h => h) (Or.inl ⟨by rfl, ?_⟩) ?_ ?_
    rotate_left
    · intro w'
      go_simp
      with_reducible rfl
    rotate_left
    · simp only [Act.put, List.setIfInBounds_toArray, List.set_cons_zero, List.set_cons_succ, i64_w, i32_w]
      rfl
    refine done_ (done_of HT_.out (by kernel_rfl)) ?_
    try go_wp2
    go_ret
    exact ⟨by first | rfl | (simp [errW_none, errW_some] <;> rfl) | (simp [*, errW_none, errW_some] <;> rfl), by repeat (first | (with_reducible first | exact HB.out | apply below_alloc | apply pw_below_drewN | apply below_drew1 | refine below_set ?_ GE104.out) | exact HB.out)⟩
end Go.Proofs.YtpldcikmlpegpaaDoor.PB
end
section
namespace Go.Proofs.YtpldcikmlpegpaaDoor.PB
open Go.RowKit Go.Proofs.YtpldcikmlpegpaaDoorW.PrintWords Go.Proofs.YtpldcikmlpegpaaDoorW.PrintLast Go.Proofs.YtpldcikmlpegpaaDoorW.PrintMore
attribute [local go_sem] max2_int min2_int max_two min_two max_three min_three max_four min_four   -- for this text's walks alone
set_option linter.unusedVariables false
set_option linter.unusedSimpArgs false
def pack_Check.l0 : Nat → List (S48) → Int → Int → List (S48) → Option (Int)
  | 0, _, _, _, _ => none
  | k + 1, x12, x13, x14, x110000 => if x14 < x13 then (if 0 ≤ x14 then (if x14 < (x12.length : Int) then ((pack_right.f ((rd_T48 x12 x14).f0) ((rd_T48 x12 x14).f1) ((rd_T48 x12 x14).f2)).bind fun t112 => (if t112 = true then (pack_Check.l0 k x12 x13 (wrap64 (x14 + 1)) x110000) else (some 20))) else (none)) else (none)) else ((pack_sums.f k x110000).bind fun bt113 => (if bt113.1 > 65536 then (some 20) else (if bt113.2 > 65536 then (some 20) else (some 0))))
def pack_Check.f (k : Nat) (l0_0 : List (S48)) : Option (Int) := if (l0_0.length : Int) > 64 then (some 20) else (pack_Check.l0 k l0_0 (l0_0.length : Int) 0 l0_0)
set_option maxHeartbeats 8000000 in
set_option maxRecDepth 100000 in
theorem pack_Check.calls (k : Nat) (A0_0 : Option Addr) (c0_0 : Nat) (l0_0 : List (S48)) (r : Int) (w : World) (hr0_0 : Kd.C k48 w A0_0 l0_0.length l0_0) (hc0_0 : l0_0.length ≤ c0_0) (h : pack_Check.f k l0_0 = some r) :
    Calls Tryd.prog 25 #[.agg #[.slice A0_0 l0_0.length c0_0]] w fun e w' => e = .returned (.int .i64 r) ∧ Below w.heap.size w w' := by
  have hu24 := Tryd.underlying24
  have hu48 := Tryd.underlying48
  have HR0_0 := Aside0.mk hr0_0
  have HC0_0 := Aside0.mk hc0_0
  clear hr0_0 hc0_0
  have HB := Aside0.mk (Below.refl w.heap.size w)
  have H : (if (l0_0.length : Int) > 64 then (some 20) else (pack_Check.l0 k l0_0 (l0_0.length : Int) 0 l0_0)) = some r := h
  clear h
  by_cases c2 : (l0_0.length : Int) > 64
  · rw [if_pos c2] at H
    have c2b0 : decide (64 < (l0_0.length : Int)) = true := decide_eq_true c2
    have c2b1 : decide (64 < l0_0.length) = true := decide_eq_true (by omega)
    clear c2
    obtain rfl := Option.some.inj H
    go_enter Tryd.func25, Tryd.ntmps25
    go_wp2_with (first | ((with_reducible refine gate_dst (N := 1) rfl ?_); refine box_event ?hg (N := 1) ?hd (cs := #[.slice A0_0 l0_0.length c0_0]) (t := 24) ?hr ?_; (case hd => rfl); (case hg => rfl); (case hr => first | (go_simp; done) | (go_simp; rfl)); intro gb109 hg w3 hbox hb; have n0_ := Aside0.mk (below_step (by repeat (first | (with_reducible first | exact HB.out | apply below_alloc | apply pw_below_drewN | apply below_drew1) | exact HB.out)) hb); have n1_ := Aside0.mk (hbox); have n2_ := Aside0.mk ((by rw [hg]; exact (below_size (by repeat (first | (with_reducible first | exact HB.out | apply below_alloc | apply pw_below_drewN | apply below_drew1) | exact HB.out))) : w.heap.size ≤ gb109)); have n3_ := Aside0.mk ((by rw [hg]; exact (below_size (by repeat (first | (with_reducible first | exact HB.out | apply below_alloc | apply pw_below_drewN | apply below_drew1) | exact HB.out))) : w.heap.size ≤ gb109)); clear HB; have HB := n0_; have BK109 := n1_; have GW109 := n2_; have GE109 := n3_; clear n0_ n1_ n2_ n3_; clear hb hbox hg; have hcz4_0 : w3.cell? ⟨gb109, 0, none⟩ = some (.slice A0_0 l0_0.length c0_0) := (blk_cell BK109.out 0).trans rfl; have hfz4_0 := blk_frozen BK109.out 0))
    go_ret
    exact ⟨by first | rfl | (simp [errW_none, errW_some] <;> rfl) | (simp [*, errW_none, errW_some] <;> rfl), by repeat (first | (with_reducible first | exact HB.out | apply below_alloc | apply pw_below_drewN | apply below_drew1 | refine below_set ?_ GE109.out) | exact HB.out)⟩
  · rw [if_neg c2] at H
    have c2b0 : decide (64 < (l0_0.length : Int)) = false := decide_eq_false c2
    have c2b1 : decide (64 < l0_0.length) = false := decide_eq_false (by omega)
    clear c2
    have H' := Aside0.mk H
    clear H
    go_enter Tryd.func25, Tryd.ntmps25
    go_wp2_with (first | ((with_reducible refine gate_dst (N := 1) rfl ?_); refine box_event ?hg (N := 1) ?hd (cs := #[.slice A0_0 l0_0.length c0_0]) (t := 24) ?hr ?_; (case hd => rfl); (case hg => rfl); (case hr => first | (go_simp; done) | (go_simp; rfl)); intro gb109 hg w5 hbox hb; have n0_ := Aside0.mk (below_step (by repeat (first | (with_reducible first | exact HB.out | apply below_alloc | apply pw_below_drewN | apply below_drew1) | exact HB.out)) hb); have n1_ := Aside0.mk (hbox); have n2_ := Aside0.mk ((by rw [hg]; exact (below_size (by repeat (first | (with_reducible first | exact HB.out | apply below_alloc | apply pw_below_drewN | apply below_drew1) | exact HB.out))) : w.heap.size ≤ gb109)); have n3_ := Aside0.mk ((by rw [hg]; exact (below_size (by repeat (first | (with_reducible first | exact HB.out | apply below_alloc | apply pw_below_drewN | apply below_drew1) | exact HB.out))) : w.heap.size ≤ gb109)); clear HB; have HB := n0_; have BK109 := n1_; have GW109 := n2_; have GE109 := n3_; clear n0_ n1_ n2_ n3_; clear hb hbox hg; have hcz6_0 : w5.cell? ⟨gb109, 0, none⟩ = some (.slice A0_0 l0_0.length c0_0) := (blk_cell BK109.out 0).trans rfl; have hfz6_0 := blk_frozen BK109.out 0))
    go_loopg [14] k (fun kq v14 w' => ∃ (x14_1 : Int), v14 = .int .i64 x14_1 ∧ Aside0 (pack_Check.l0 kq l0_0 (l0_0.length : Int) x14_1 l0_0 = some r) ∧ Aside0 (kq ≤ k) ∧ Aside0 (w'.heap[gb109]? = some (.cells #[(.slice A0_0 l0_0.length c0_0)] 24 (0, 0))) ∧ Aside0 (Below w.heap.size w w'))
    case atStart => exact ⟨(0), (by first | rfl | (simp; done) | (simp [*]; done)), H', ⟨Nat.le_refl _⟩, ⟨by (with_reducible repeat (first | refine blk_drewN ?_ _ | refine blk_drew ?_ | refine blk_alloc ?_ _)); exact BK109.out⟩, ⟨by repeat (first | (with_reducible first | exact HB.out | apply below_alloc | apply pw_below_drewN | apply below_drew1 | refine below_set ?_ GE109.out) | exact HB.out)⟩⟩
    case round =>
      clear H'
      try clear c2
      try clear c2b0
      try clear c2b1
      try clear p2
      try clear hcz4_0
      try clear hcz6_0
      try clear hfz4_0
      try clear hfz6_0
      obtain ⟨x14_1, rfl, HA, HK1, BK109, HB⟩ := hrel
      cases gk with
      | zero => exact absurd HA.out (by simp [pack_Check.l0])
      | succ k1 =>
        have H := HA.out
        clear HA
        simp only [pack_Check.l0] at H
        by_cases c7 : x14_1 < (l0_0.length : Int)
        · rw [if_pos c7] at H
          have c7b0 : decide (x14_1 < (l0_0.length : Int)) = true := decide_eq_true c7
          clear c7
          by_cases c8 : 0 ≤ x14_1
          · rw [if_pos c8] at H
            have c8b0 : decide (0 ≤ x14_1) = true := decide_eq_true c8
            clear c8
            by_cases c9 : x14_1 < (l0_0.length : Int)
            · rw [if_pos c9] at H
              have c9b0 : decide (x14_1 < (l0_0.length : Int)) = true := decide_eq_true c9
              clear c9
              replace H := Option.bind_eq_some_iff.mp H
              obtain ⟨t112, A100, H⟩ := H
              replace H : (if t112 = true then (pack_Check.l0 k1 l0_0 (l0_0.length : Int) (wrap64 (x14_1 + 1)) l0_0) else (some 20)) = some r := H
              have A10 := Aside0.mk A100
              clear A100
              by_cases c11 : t112 = true
              · subst c11
                have H1 : (pack_Check.l0 k1 l0_0 (l0_0.length : Int) (wrap64 (x14_1 + 1)) l0_0) = some r := by rw [if_pos rfl] at H; exact H
                clear H
                have H := H1
                clear H1
                have H' := Aside0.mk H
                clear H
                have p110 : 0 ≤ (x14_1 : Int) := of_decide_eq_true (by first | (with_reducible assumption) | assumption)
                have q110 : x14_1 < (l0_0.length : Int) := of_decide_eq_true (by first | (with_reducible assumption) | assumption)
                obtain ⟨ad110, e110, hx110_0, hx110_1, hx110_2⟩ := at_T48 HR0_0.out x14_1 p110 q110
                cases e110
                replace hx110_0 := (HB.out.cell (World.block_lt_of_cell? w _ hx110_0)).trans hx110_0
                replace hx110_1 := (HB.out.cell (World.block_lt_of_cell? w _ hx110_1)).trans hx110_1
                replace hx110_2 := (HB.out.cell (World.block_lt_of_cell? w _ hx110_2)).trans hx110_2
                replace p110 := eq_true p110
                replace q110 := eq_true q110
                go_wp2_with (first | ((with_reducible refine gate_dst (N := 4) rfl ?_); refine box_event ?hg (N := 4) ?hd (cs := #[.int .i64 0, .int .i64 0, .int .i64 0]) (t := 48) ?hr ?_; (case hd => rfl); (case hg => rfl); (case hr => first | (go_simp; done) | (go_simp; rfl)); intro gb111 hg w12 hbox hb; have n0_ := Aside0.mk (blk_below (g := gb109) (o := .cells #[.slice (some ad110) l0_0.length c0_0] 24 (0, 0)) (by (with_reducible repeat (first | refine blk_drewN ?_ _ | refine blk_drew ?_ | refine blk_alloc ?_ _)); exact BK109.out) hb); have n1_ := Aside0.mk (below_step (by repeat (first | (with_reducible first | exact HB.out | apply below_alloc | apply pw_below_drewN | apply below_drew1 | refine below_set ?_ GE109.out) | exact HB.out)) hb); have n2_ := Aside0.mk (hbox); have n3_ := Aside0.mk ((by rw [hg]; exact (below_size (by repeat (first | (with_reducible first | exact HB.out | apply below_alloc | apply pw_below_drewN | apply below_drew1 | refine below_set ?_ GE109.out) | exact HB.out))) : w.heap.size ≤ gb111)); have n4_ := Aside0.mk ((by rw [hg]; exact (below_size (by repeat (first | (with_reducible first | exact HB.out | apply below_alloc | apply pw_below_drewN | apply below_drew1 | refine below_set ?_ GE109.out) | exact HB.out))) : w.heap.size ≤ gb111)); have n5_ := Aside0.mk ((by rw [hg]; exact Nat.ne_of_lt (blk_lt (g := gb109) (o := .cells #[.slice (some ad110) l0_0.length c0_0] 24 (0, 0)) (by (with_reducible repeat (first | refine blk_drewN ?_ _ | refine blk_drew ?_ | refine blk_alloc ?_ _)); exact BK109.out)) : gb109 ≠ gb111)); have n6_ := Aside0.mk ((by rw [hg]; exact Nat.ne_of_gt (blk_lt (g := gb109) (o := .cells #[.slice (some ad110) l0_0.length c0_0] 24 (0, 0)) (by (with_reducible repeat (first | refine blk_drewN ?_ _ | refine blk_drew ?_ | refine blk_alloc ?_ _)); exact BK109.out)) : gb111 ≠ gb109)); clear BK109; clear HB; have BK109 := n0_; have HB := n1_; have BK111 := n2_; have GW111 := n3_; have GE111 := n4_; have NB109_111 := n5_; have NB111_109 := n6_; clear n0_ n1_ n2_ n3_ n4_ n5_ n6_; clear hb hbox hg; have hnb13 := NB111_109.out; have hnc13 := NB109_111.out; have hcz14_0 : w12.cell? ⟨gb111, 0, none⟩ = some (.int .i64 0) := (blk_cell BK111.out 0).trans rfl; have hcz14_1 : w12.cell? ⟨gb111, 1, none⟩ = some (.int .i64 0) := (blk_cell BK111.out 1).trans rfl; have hcz14_2 : w12.cell? ⟨gb111, 2, none⟩ = some (.int .i64 0) := (blk_cell BK111.out 2).trans rfl; have hfz14_0 := blk_frozen BK111.out 0; have hfz14_1 := blk_frozen BK111.out 1; have hfz14_2 := blk_frozen BK111.out 2) | ((with_reducible refine gate_callee (f := 64) rfl ?_); refine goesL_ (some 19) rfl rfl Tryd.func64 (by kernel_rfl) rfl #[.agg #[.int .i64 ((rd_T48 l0_0 x14_1).f0), .int .i64 ((rd_T48 l0_0 x14_1).f1), .int .i64 ((rd_T48 l0_0 x14_1).f2)]] rfl (by (try simp only [List.map_toArray, List.map_cons, List.map_nil]); first | done | rfl | (simp only [List.length_drop, List.length_take]; rfl)) ?_; (with_reducible refine (pack_right.calls ((rd_T48 l0_0 x14_1).f0) ((rd_T48 l0_0 x14_1).f1) ((rd_T48 l0_0 x14_1).f2) true _ A10.out).mono ?_); rintro e w15 ⟨rfl, hb⟩; refine ⟨_, rfl, ?_⟩; have n0_ := Aside0.mk (blk_below (g := gb109) (o := .cells #[.slice (some ad110) l0_0.length c0_0] 24 (0, 0)) (by (with_reducible repeat (first | refine blk_drewN ?_ _ | refine blk_drew ?_ | refine blk_alloc ?_ _)); refine blk_far ?_ NB109_111.out _; (with_reducible repeat (first | refine blk_drewN ?_ _ | refine blk_drew ?_ | refine blk_alloc ?_ _)); refine blk_far ?_ NB109_111.out _; (with_reducible repeat (first | refine blk_drewN ?_ _ | refine blk_drew ?_ | refine blk_alloc ?_ _)); refine blk_far ?_ NB109_111.out _; (with_reducible repeat (first | refine blk_drewN ?_ _ | refine blk_drew ?_ | refine blk_alloc ?_ _)); exact BK109.out) hb); have n1_ := Aside0.mk (blk_below (g := gb111) (o := .cells #[.int .i64 ((rd_T48 l0_0 x14_1).f0), .int .i64 ((rd_T48 l0_0 x14_1).f1), .int .i64 ((rd_T48 l0_0 x14_1).f2)] 48 (0, 0)) (by (with_reducible repeat (first | refine blk_drewN ?_ _ | refine blk_drew ?_ | refine blk_alloc ?_ _)); refine blk_put (cs := #[.int .i64 ((rd_T48 l0_0 x14_1).f0), .int .i64 ((rd_T48 l0_0 x14_1).f1), .int .i64 0]) ?_ 2 _ rfl; (with_reducible repeat (first | refine blk_drewN ?_ _ | refine blk_drew ?_ | refine blk_alloc ?_ _)); refine blk_put (cs := #[.int .i64 ((rd_T48 l0_0 x14_1).f0), .int .i64 0, .int .i64 0]) ?_ 1 _ rfl; (with_reducible repeat (first | refine blk_drewN ?_ _ | refine blk_drew ?_ | refine blk_alloc ?_ _)); refine blk_put (cs := #[.int .i64 0, .int .i64 0, .int .i64 0]) ?_ 0 _ rfl; (with_reducible repeat (first | refine blk_drewN ?_ _ | refine blk_drew ?_ | refine blk_alloc ?_ _)); exact BK111.out) hb); have n2_ := Aside0.mk (below_step (by repeat (first | (with_reducible first | exact HB.out | apply below_alloc | apply pw_below_drewN | apply below_drew1 | refine below_set ?_ GE109.out | refine below_set ?_ GE111.out) | exact HB.out)) hb); clear BK109; clear BK111; clear HB; have BK109 := n0_; have BK111 := n1_; have HB := n2_; clear n0_ n1_ n2_; (try clear hb); (try clear hb2); (try clear hk); (try clear hi)))
                go_roundg k1
                case measure => have := HK1.out; omega
                case rel => exact ⟨(wrap64 (x14_1 + 1)), (by first | rfl | (simp; done) | (simp [*]; done)), H', ⟨by have := HK1.out; omega⟩, ⟨by (with_reducible repeat (first | refine blk_drewN ?_ _ | refine blk_drew ?_ | refine blk_alloc ?_ _)); exact BK109.out⟩, ⟨by repeat (first | (with_reducible first | exact HB.out | apply below_alloc | apply pw_below_drewN | apply below_drew1 | refine below_set ?_ GE109.out | refine below_set ?_ GE111.out) | exact HB.out)⟩⟩
              · replace c11 := Bool.eq_false_iff.mpr c11
                subst c11
                have H1 : (some 20) = some r := by rw [if_neg (show ¬ (false = true) by decide)] at H; exact H
                clear H
                have H := H1
                clear H1
                obtain rfl := Option.some.inj H
                have p110 : 0 ≤ (x14_1 : Int) := of_decide_eq_true (by first | (with_reducible assumption) | assumption)
                have q110 : x14_1 < (l0_0.length : Int) := of_decide_eq_true (by first | (with_reducible assumption) | assumption)
                obtain ⟨ad110, e110, hx110_0, hx110_1, hx110_2⟩ := at_T48 HR0_0.out x14_1 p110 q110
                cases e110
                replace hx110_0 := (HB.out.cell (World.block_lt_of_cell? w _ hx110_0)).trans hx110_0
                replace hx110_1 := (HB.out.cell (World.block_lt_of_cell? w _ hx110_1)).trans hx110_1
                replace hx110_2 := (HB.out.cell (World.block_lt_of_cell? w _ hx110_2)).trans hx110_2
                replace p110 := eq_true p110
                replace q110 := eq_true q110
                go_wp2_with (first | ((with_reducible refine gate_dst (N := 4) rfl ?_); refine box_event ?hg (N := 4) ?hd (cs := #[.int .i64 0, .int .i64 0, .int .i64 0]) (t := 48) ?hr ?_; (case hd => rfl); (case hg => rfl); (case hr => first | (go_simp; done) | (go_simp; rfl)); intro gb111 hg w16 hbox hb; have n0_ := Aside0.mk (blk_below (g := gb109) (o := .cells #[.slice (some ad110) l0_0.length c0_0] 24 (0, 0)) (by (with_reducible repeat (first | refine blk_drewN ?_ _ | refine blk_drew ?_ | refine blk_alloc ?_ _)); exact BK109.out) hb); have n1_ := Aside0.mk (below_step (by repeat (first | (with_reducible first | exact HB.out | apply below_alloc | apply pw_below_drewN | apply below_drew1 | refine below_set ?_ GE109.out) | exact HB.out)) hb); have n2_ := Aside0.mk (hbox); have n3_ := Aside0.mk ((by rw [hg]; exact (below_size (by repeat (first | (with_reducible first | exact HB.out | apply below_alloc | apply pw_below_drewN | apply below_drew1 | refine below_set ?_ GE109.out) | exact HB.out))) : w.heap.size ≤ gb111)); have n4_ := Aside0.mk ((by rw [hg]; exact (below_size (by repeat (first | (with_reducible first | exact HB.out | apply below_alloc | apply pw_below_drewN | apply below_drew1 | refine below_set ?_ GE109.out) | exact HB.out))) : w.heap.size ≤ gb111)); have n5_ := Aside0.mk ((by rw [hg]; exact Nat.ne_of_lt (blk_lt (g := gb109) (o := .cells #[.slice (some ad110) l0_0.length c0_0] 24 (0, 0)) (by (with_reducible repeat (first | refine blk_drewN ?_ _ | refine blk_drew ?_ | refine blk_alloc ?_ _)); exact BK109.out)) : gb109 ≠ gb111)); have n6_ := Aside0.mk ((by rw [hg]; exact Nat.ne_of_gt (blk_lt (g := gb109) (o := .cells #[.slice (some ad110) l0_0.length c0_0] 24 (0, 0)) (by (with_reducible repeat (first | refine blk_drewN ?_ _ | refine blk_drew ?_ | refine blk_alloc ?_ _)); exact BK109.out)) : gb111 ≠ gb109)); clear BK109; clear HB; have BK109 := n0_; have HB := n1_; have BK111 := n2_; have GW111 := n3_; have GE111 := n4_; have NB109_111 := n5_; have NB111_109 := n6_; clear n0_ n1_ n2_ n3_ n4_ n5_ n6_; clear hb hbox hg; have hnb17 := NB111_109.out; have hnc17 := NB109_111.out; have hcz18_0 : w16.cell? ⟨gb111, 0, none⟩ = some (.int .i64 0) := (blk_cell BK111.out 0).trans rfl; have hcz18_1 : w16.cell? ⟨gb111, 1, none⟩ = some (.int .i64 0) := (blk_cell BK111.out 1).trans rfl; have hcz18_2 : w16.cell? ⟨gb111, 2, none⟩ = some (.int .i64 0) := (blk_cell BK111.out 2).trans rfl; have hfz18_0 := blk_frozen BK111.out 0; have hfz18_1 := blk_frozen BK111.out 1; have hfz18_2 := blk_frozen BK111.out 2) | ((with_reducible refine gate_callee (f := 64) rfl ?_); refine goesL_ (some 19) rfl rfl Tryd.func64 (by kernel_rfl) rfl #[.agg #[.int .i64 ((rd_T48 l0_0 x14_1).f0), .int .i64 ((rd_T48 l0_0 x14_1).f1), .int .i64 ((rd_T48 l0_0 x14_1).f2)]] rfl (by (try simp only [List.map_toArray, List.map_cons, List.map_nil]); first | done | rfl | (simp only [List.length_drop, List.length_take]; rfl)) ?_; (with_reducible refine (pack_right.calls ((rd_T48 l0_0 x14_1).f0) ((rd_T48 l0_0 x14_1).f1) ((rd_T48 l0_0 x14_1).f2) false _ A10.out).mono ?_); rintro e w19 ⟨rfl, hb⟩; refine ⟨_, rfl, ?_⟩; have n0_ := Aside0.mk (blk_below (g := gb109) (o := .cells #[.slice (some ad110) l0_0.length c0_0] 24 (0, 0)) (by (with_reducible repeat (first | refine blk_drewN ?_ _ | refine blk_drew ?_ | refine blk_alloc ?_ _)); refine blk_far ?_ NB109_111.out _; (with_reducible repeat (first | refine blk_drewN ?_ _ | refine blk_drew ?_ | refine blk_alloc ?_ _)); refine blk_far ?_ NB109_111.out _; (with_reducible repeat (first | refine blk_drewN ?_ _ | refine blk_drew ?_ | refine blk_alloc ?_ _)); refine blk_far ?_ NB109_111.out _; (with_reducible repeat (first | refine blk_drewN ?_ _ | refine blk_drew ?_ | refine blk_alloc ?_ _)); exact BK109.out) hb); have n1_ := Aside0.mk (blk_below (g := gb111) (o := .cells #[.int .i64 ((rd_T48 l0_0 x14_1).f0), .int .i64 ((rd_T48 l0_0 x14_1).f1), .int .i64 ((rd_T48 l0_0 x14_1).f2)] 48 (0, 0)) (by (with_reducible repeat (first | refine blk_drewN ?_ _ | refine blk_drew ?_ | refine blk_alloc ?_ _)); refine blk_put (cs := #[.int .i64 ((rd_T48 l0_0 x14_1).f0), .int .i64 ((rd_T48 l0_0 x14_1).f1), .int .i64 0]) ?_ 2 _ rfl; (with_reducible repeat (first | refine blk_drewN ?_ _ | refine blk_drew ?_ | refine blk_alloc ?_ _)); refine blk_put (cs := #[.int .i64 ((rd_T48 l0_0 x14_1).f0), .int .i64 0, .int .i64 0]) ?_ 1 _ rfl; (with_reducible repeat (first | refine blk_drewN ?_ _ | refine blk_drew ?_ | refine blk_alloc ?_ _)); refine blk_put (cs := #[.int .i64 0, .int .i64 0, .int .i64 0]) ?_ 0 _ rfl; (with_reducible repeat (first | refine blk_drewN ?_ _ | refine blk_drew ?_ | refine blk_alloc ?_ _)); exact BK111.out) hb); have n2_ := Aside0.mk (below_step (by repeat (first | (with_reducible first | exact HB.out | apply below_alloc | apply pw_below_drewN | apply below_drew1 | refine below_set ?_ GE109.out | refine below_set ?_ GE111.out) | exact HB.out)) hb); clear BK109; clear BK111; clear HB; have BK109 := n0_; have BK111 := n1_; have HB := n2_; clear n0_ n1_ n2_; (try clear hb); (try clear hb2); (try clear hk); (try clear hi)))
                go_ret
                exact ⟨by first | rfl | (simp [errW_none, errW_some] <;> rfl) | (simp [*, errW_none, errW_some] <;> rfl), by repeat (first | (with_reducible first | exact HB.out | apply below_alloc | apply pw_below_drewN | apply below_drew1 | refine below_set ?_ GE109.out | refine below_set ?_ GE111.out) | exact HB.out)⟩
            · rw [if_neg c9] at H
              exact absurd H (by simp)
          · rw [if_neg c8] at H
            exact absurd H (by simp)
        · rw [if_neg c7] at H
          have c7b0 : decide (x14_1 < (l0_0.length : Int)) = false := decide_eq_false c7
          clear c7
          replace H := Option.bind_eq_some_iff.mp H
          obtain ⟨⟨t113, t114⟩, A200, H⟩ := H
          replace H : (if t113 > 65536 then (some 20) else (if t114 > 65536 then (some 20) else (some 0))) = some r := H
          have A20 := Aside0.mk A200
          clear A200
          by_cases c21 : t113 > 65536
          · rw [if_pos c21] at H
            have c21b0 : decide (65536 < t113) = true := decide_eq_true c21
            clear c21
            obtain rfl := Option.some.inj H
            have hcz22_0 : wr.cell? ⟨gb109, 0, none⟩ = some (.slice A0_0 l0_0.length c0_0) := (blk_cell BK109.out 0).trans rfl
            have hfz22_0 := blk_frozen BK109.out 0
            go_wp2_with (first | ((with_reducible refine gate_callee (f := 63) rfl ?_); refine goesL_ (some 25) rfl rfl Tryd.func63 (by kernel_rfl) rfl #[.slice A0_0 l0_0.length c0_0] rfl (by (try simp only [List.map_toArray, List.map_cons, List.map_nil]); first | done | rfl | (simp only [List.length_drop, List.length_take]; rfl)) ?_; (with_reducible refine (pack_sums.calls k1 _ _ l0_0 t113 t114 _ ?side1 ?side2 A20.out).mono ?_); (case side1 => repeat (first | exact (Kd.C_below HR0_0.out HB.out) | (with_reducible refine Kd.C_alloc ?_ _) | (with_reducible refine Kd.C_drewN ?_ _) | (with_reducible refine Kd.C_drew ?_))); (case side2 => exact HC0_0.out); rintro e w23 ⟨rfl, hb⟩; refine ⟨_, rfl, ?_⟩; have n0_ := Aside0.mk (blk_below (g := gb109) (o := .cells #[.slice A0_0 l0_0.length c0_0] 24 (0, 0)) (by (with_reducible repeat (first | refine blk_drewN ?_ _ | refine blk_drew ?_ | refine blk_alloc ?_ _)); exact BK109.out) hb); have n1_ := Aside0.mk (below_step (by repeat (first | (with_reducible first | exact HB.out | apply below_alloc | apply pw_below_drewN | apply below_drew1 | refine below_set ?_ GE109.out) | exact HB.out)) hb); clear BK109; clear HB; have BK109 := n0_; have HB := n1_; clear n0_ n1_; (try clear hb); (try clear hb2); (try clear hk); (try clear hi)))
            go_ret
            exact ⟨by first | rfl | (simp [errW_none, errW_some] <;> rfl) | (simp [*, errW_none, errW_some] <;> rfl), by repeat (first | (with_reducible first | exact HB.out | apply below_alloc | apply pw_below_drewN | apply below_drew1 | refine below_set ?_ GE109.out) | exact HB.out)⟩
          · rw [if_neg c21] at H
            have c21b0 : decide (65536 < t113) = false := decide_eq_false c21
            clear c21
            by_cases c24 : t114 > 65536
            · rw [if_pos c24] at H
              have c24b0 : decide (65536 < t114) = true := decide_eq_true c24
              clear c24
              obtain rfl := Option.some.inj H
              have hcz25_0 : wr.cell? ⟨gb109, 0, none⟩ = some (.slice A0_0 l0_0.length c0_0) := (blk_cell BK109.out 0).trans rfl
              have hfz25_0 := blk_frozen BK109.out 0
              go_wp2_with (first | ((with_reducible refine gate_callee (f := 63) rfl ?_); refine goesL_ (some 25) rfl rfl Tryd.func63 (by kernel_rfl) rfl #[.slice A0_0 l0_0.length c0_0] rfl (by (try simp only [List.map_toArray, List.map_cons, List.map_nil]); first | done | rfl | (simp only [List.length_drop, List.length_take]; rfl)) ?_; (with_reducible refine (pack_sums.calls k1 _ _ l0_0 t113 t114 _ ?side1 ?side2 A20.out).mono ?_); (case side1 => repeat (first | exact (Kd.C_below HR0_0.out HB.out) | (with_reducible refine Kd.C_alloc ?_ _) | (with_reducible refine Kd.C_drewN ?_ _) | (with_reducible refine Kd.C_drew ?_))); (case side2 => exact HC0_0.out); rintro e w26 ⟨rfl, hb⟩; refine ⟨_, rfl, ?_⟩; have n0_ := Aside0.mk (blk_below (g := gb109) (o := .cells #[.slice A0_0 l0_0.length c0_0] 24 (0, 0)) (by (with_reducible repeat (first | refine blk_drewN ?_ _ | refine blk_drew ?_ | refine blk_alloc ?_ _)); exact BK109.out) hb); have n1_ := Aside0.mk (below_step (by repeat (first | (with_reducible first | exact HB.out | apply below_alloc | apply pw_below_drewN | apply below_drew1 | refine below_set ?_ GE109.out) | exact HB.out)) hb); clear BK109; clear HB; have BK109 := n0_; have HB := n1_; clear n0_ n1_; (try clear hb); (try clear hb2); (try clear hk); (try clear hi)))
              go_ret
              exact ⟨by first | rfl | (simp [errW_none, errW_some] <;> rfl) | (simp [*, errW_none, errW_some] <;> rfl), by repeat (first | (with_reducible first | exact HB.out | apply below_alloc | apply pw_below_drewN | apply below_drew1 | refine below_set ?_ GE109.out) | exact HB.out)⟩
            · rw [if_neg c24] at H
              have c24b0 : decide (65536 < t114) = false := decide_eq_false c24
              clear c24
              obtain rfl := Option.some.inj H
              have hcz27_0 : wr.cell? ⟨gb109, 0, none⟩ = some (.slice A0_0 l0_0.length c0_0) := (blk_cell BK109.out 0).trans rfl
              have hfz27_0 := blk_frozen BK109.out 0
              go_wp2_with (first | ((with_reducible refine gate_callee (f := 63) rfl ?_); refine goesL_ (some 25) rfl rfl Tryd.func63 (by kernel_rfl) rfl #[.slice A0_0 l0_0.length c0_0] rfl (by (try simp only [List.map_toArray, List.map_cons, List.map_nil]); first | done | rfl | (simp only [List.length_drop, List.length_take]; rfl)) ?_; (with_reducible refine (pack_sums.calls k1 _ _ l0_0 t113 t114 _ ?side1 ?side2 A20.out).mono ?_); (case side1 => repeat (first | exact (Kd.C_below HR0_0.out HB.out) | (with_reducible refine Kd.C_alloc ?_ _) | (with_reducible refine Kd.C_drewN ?_ _) | (with_reducible refine Kd.C_drew ?_))); (case side2 => exact HC0_0.out); rintro e w28 ⟨rfl, hb⟩; refine ⟨_, rfl, ?_⟩; have n0_ := Aside0.mk (blk_below (g := gb109) (o := .cells #[.slice A0_0 l0_0.length c0_0] 24 (0, 0)) (by (with_reducible repeat (first | refine blk_drewN ?_ _ | refine blk_drew ?_ | refine blk_alloc ?_ _)); exact BK109.out) hb); have n1_ := Aside0.mk (below_step (by repeat (first | (with_reducible first | exact HB.out | apply below_alloc | apply pw_below_drewN | apply below_drew1 | refine below_set ?_ GE109.out) | exact HB.out)) hb); clear BK109; clear HB; have BK109 := n0_; have HB := n1_; clear n0_ n1_; (try clear hb); (try clear hb2); (try clear hk); (try clear hi)))
              go_ret
              exact ⟨by first | rfl | (simp [errW_none, errW_some] <;> rfl) | (simp [*, errW_none, errW_some] <;> rfl), by repeat (first | (with_reducible first | exact HB.out | apply below_alloc | apply pw_below_drewN | apply below_drew1 | refine below_set ?_ GE109.out) | exact HB.out)⟩
end Go.Proofs.YtpldcikmlpegpaaDoor.PB
end
section
namespace Go.Proofs.YtpldcikmlpegpaaDoor.Col
open Go.RowKit Go.Proofs.YtpldcikmlpegpaaDoor.PB Go.Proofs.YtpldcikmlpegpaaDoorW.PrintWords Go.Proofs.YtpldcikmlpegpaaDoorW.PrintLast Go.Proofs.YtpldcikmlpegpaaDoorW.PrintMore
attribute [local go_sem] max2_int min2_int max_two min_two
def C.live (c : C) : List S48 := (c.at_.drop c.top).take (c.n - c.top)
theorem live_len {w : World} {g : Nat} {c : C} (h : Is w g c) (hn : c.n ≤ 65) : c.live.length = c.n - c.top := by
  unfold C.live
  have := h.1
  simp
  omega
theorem live_read {w : World} {g : Nat} {c : C} (h : Is w g c) (hn : c.n ≤ 65) (ht : c.top < c.n) : Kd.C k48 w (some ⟨g, c.top * 3, none⟩) c.live.length c.live := by
  have hl := live_len h hn
  refine ⟨rfl, by omega, fun _ => ⟨_, rfl, fun j p hp => ?_⟩⟩
  have hj : j < c.n - c.top := by have := (List.getElem?_eq_some_iff.1 hp).1; omega
  refine ⟨lcells p, rfl, k48_mk w p, fun i u hu => ?_⟩
  have hi : i < 3 := (List.getElem?_eq_some_iff.1 hu).1
  have e : ((⟨g, c.top * 3, none⟩ : Addr).add (j * 3 + i)) = ⟨g, (c.top + j) * 3 + i, none⟩ := by
    have e0 : (c.top + j) * 3 + i = c.top * 3 + (j * 3 + i) := by omega
    rw [e0]
    generalize j * 3 + i = q
    unfold Addr.add
    split <;> simp_all
  rw [show k48.sz = 3 from rfl, e, h.layer (c.top + j) i (by omega) hi]
  have ep : c.at_.getD (c.top + j) z48 = p := by
    unfold C.live at hp
    rw [List.getElem?_take_of_lt hj, List.getElem?_drop] at hp
    rw [List.getD_eq_getElem?_getD, hp]
    rfl
  rw [ep, hu]
theorem read_empty {w : World} {A : Option Addr} {l : List S48} (h : l.length = 0) : Kd.C k48 w A l.length l := ⟨rfl, by omega, fun h2 => by omega⟩
set_option maxRecDepth 100000 in
set_option maxHeartbeats 1000000 in
theorem layers_calls (w : World) (g : Nat) (c : C) (h : Is w g c) (hn65 : c.n ≤ 65) (ht : c.top ≤ c.n) :
    Calls Tryd.prog 90 #[.pointer (some ⟨g, 0, none⟩)] w fun e w' => ∃ A cap, e = .returned (.slice A c.live.length cap) ∧ c.live.length ≤ cap ∧ Kd.C k48 w' A c.live.length c.live ∧ ∃ n, w' = w.drewN n := by
  have HI := Aside0.mk h
  have HT := Aside0.mk ht
  have HN := Aside0.mk hn65
  have HLL := Aside0.mk (live_len h hn65)
  obtain ⟨nn, hnn⟩ : ∃ nn, c.n = nn := ⟨_, rfl⟩
  obtain ⟨tt, htt⟩ : ∃ tt, c.top = tt := ⟨_, rfl⟩
  have htop := HI.out.top
  have hcn := HI.out.n
  rw [htt] at htop
  rw [hnn] at hcn
  have b65 : nn ≤ 65 := by omega
  have btt : tt ≤ nn := by omega
  have HNN := Aside0.mk hnn
  have HTT := Aside0.mk htt
  clear h hnn htt hn65 ht
  have i0 : (0 : Int) ≤ (tt : Int) := by omega
  have i1 : (tt : Int) ≤ (nn : Int) := by omega
  have i2 : (nn : Int) ≤ 65 := by omega
  go_enter Tryd.func90, Tryd.ntmps90
  go_wp2
  have eL : Aside0 (nn - tt = c.live.length) := ⟨by rw [HLL.out, HNN.out, HTT.out]⟩
  have hR : Aside0 (∀ n, tt < nn → Kd.C k48 (w.drewN n) (some ⟨g, tt * 3, none⟩) c.live.length c.live) := ⟨fun n hlt => by
    have := live_read (HI.out.drewN n) HN.out (by rw [HNN.out, HTT.out]; exact hlt)
    rw [HTT.out] at this
    exact this⟩
  by_cases h65 : tt < 65
  · go_quiet (fail)
    go_wp2
    go_ret
    refine ⟨some ⟨g, tt * 3, none⟩, 65 - tt, by rw [eL.out]; rfl, by have := eL.out; omega, ?_, nq, rfl⟩
    by_cases hlt : tt < nn
    · exact hR.out nq hlt
    · exact read_empty (by have := eL.out; omega)
  · go_quiet (fail)
    go_wp2
    all_goals go_ret
    all_goals exact ⟨some ⟨g, 0, none⟩, 0, by rw [eL.out]; rfl, by have := eL.out; omega, read_empty (by have := eL.out; omega), nq, rfl⟩
theorem R_set_low {α : Type} {d : Kd α} {e : Nat} {w : World} {base : Nat} {v : Value} {xs : List α} (h : d.R e w base (fun _ => True) v xs) {B i : Nat} (hB : B < base) (u : Value) : d.R e (w.setCell ⟨B, i, none⟩ u) B (fun _ => True) v xs :=
  Kd.R_lower (Kd.R_mono (Kd.R_far (p := ⟨B, i, none⟩) (Kd.R_mono (Kd.R_bound h) (ok' := fun k => base ≤ k) (fun _ h => h.2.1)) (fun k hk => by dsimp only; omega) u) (fun _ _ => trivial)) (by omega)
def limitE (r : Int) : Int := if r = 0 then 0 else 2
def limitL (r : Int) (l : List S48) : List S48 := if r = 0 then l else []
set_option maxRecDepth 100000 in
set_option maxHeartbeats 1000000 in
theorem pack_calls (k : Nat) (r : Int) (w : World) (g : Nat) (c : C) (h : Is w g c) (hn65 : c.n ≤ 65) (ht : c.top ≤ c.n) (hk : pack_Check.f k c.live = some r) :
    Calls Tryd.prog 61 #[.pointer (some ⟨g, 0, none⟩)] w fun e w' => ∃ v, e = .returned (.tuple #[.agg #[v], .int .i64 (limitE r)]) ∧
      Kd.R k48 48 w' w.heap.size (fun _ => True) v (limitL r c.live) ∧ Below w.heap.size w w' := by
  have hu24 := Tryd.underlying24
  have hu48 := Tryd.underlying48
  have HI := Aside0.mk h
  have HT := Aside0.mk ht
  have HN := Aside0.mk hn65
  have HCK := Aside0.mk hk
  have HLL := Aside0.mk (live_len h hn65)
  clear h ht hn65 hk
  go_enter Tryd.func61, Tryd.ntmps61
  go_upto_region 1 with (fail)
  obtain ⟨B, hB⟩ : ∃ B, w.heap.size = B := ⟨_, rfl⟩
  obtain ⟨W1, hW1⟩ : ∃ W1, w.alloc (.cells #[.slice none 0 0] 24 (0, 0)) = W1 := ⟨_, rfl⟩
  have hsz : W1.heap.size = B + 1 := by rw [← hW1, ← hB]; simp
  have HB1 : Aside0 (Below B w W1) := ⟨by rw [← hW1, ← hB]; exact (Below.refl _ _).alloc (Nat.le_refl _) _⟩
  have HRC : Aside0 (W1.heap[B]? = some (.cells #[.slice none 0 0] 24 (0, 0))) := ⟨by rw [← hW1, ← hB]; exact blk_new _ _⟩
  have HI1 : Aside0 (Is W1 g c) := ⟨by rw [← hW1]; exact HI.out.alloc _⟩
  have HSZ := Aside0.mk hsz
  have HBq := Aside0.mk hB
  rw [hW1, hB]
  clear hW1 hB hsz
  go_upto_region 2 with (first | (go_at_call 90; refine (layers_calls _ g c HI1.out HN.out HT.out).mono ?_; rintro e w1 ⟨A1, cap1, rfl, hcap, hread, n1, rfl⟩; have HRD := Aside0.mk hread; clear hread hcap) | (at_builtin; refine Kd.R_append_rows k48 (w0 := W1) W1.heap.size rfl (.const (.slice none 0 0)) (.tmp 6) 22 48 (.agg #[(.int .i64 0), (.int .i64 0), (.int .i64 0)]) 24 rfl Tryd.underlying22 info48 rfl (by decide) (by omega) (.slice none 0 0) [] c.live _ _ _ (fun _ => True) (fun _ => False) rfl rfl (Kd.R_nil _ _ _ _ _) HRD.out (fun _ _ h => h) (fun _ h => h.elim) (fun _ _ => trivial) ?aB (Nat.le_refl _) ?aL ?_; (case aB => apply pw_below_drewN; exact Below.refl _ _); (case aL => have := HLL.out; have := HN.out; simp only [List.length_nil]; omega); intro v1 w5 ho hb hg hat; obtain ⟨A2, c2, rfl⟩ := Kd.R_slice ho; have HO := Aside0.mk ho; have HB5 := Aside0.mk hb; clear ho hb hg hat))
  obtain ⟨p, hp⟩ : ∃ p, w5.heap.size = p := ⟨_, rfl⟩
  obtain ⟨W6, hW6⟩ : ∃ W6, w5.alloc (.cells #[.slice A2 c.live.length c2] 24 (0, 0)) = W6 := ⟨_, rfl⟩
  rw [hW6, hp]
  have HB6 : Aside0 (Below W1.heap.size W1 W6) := ⟨by rw [← hW6]; exact HB5.out.alloc HB5.out.size _⟩
  have HPC : Aside0 (W6.heap[p]? = some (.cells #[.slice A2 c.live.length c2] 24 (0, 0))) := ⟨by rw [← hW6, ← hp]; exact blk_new _ _⟩
  have HO6 : Aside0 (Kd.R k48 48 W6 W1.heap.size (fun _ => True) (.slice A2 c.live.length c2) c.live) := ⟨by rw [← hW6]; exact Kd.R_alloc HO.out _⟩
  have HRC6 : Aside0 (W6.heap[B]? = some (.cells #[.slice none 0 0] 24 (0, 0))) := ⟨blk_below HRC.out HB6.out⟩
  have HRD6 := Aside0.mk (Kd.R_reads' HO6.out)
  have HBt : Aside0 (Below B w W6) := ⟨HB1.out.trans (HB6.out.mono (by have := HSZ.out; omega))⟩
  have HNB : Aside0 (p ≠ B) := ⟨by have := HB5.out.size; have := HSZ.out; omega⟩
  have hpc : W6.cell? ⟨p, 0, none⟩ = some (.slice A2 c.live.length c2) := (blk_cell HPC.out 0).trans rfl
  clear hW6 hp HB5 HO HRD HRC HI1
  go_upto_if 11 with (first | (go_at_call 25; refine (pack_Check.calls k A2 c2 c.live r _ HRD6.out.2.2 HRD6.out.2.1 HCK.out).mono ?_; rintro e w7 ⟨rfl, hb⟩; have HB7 := Aside0.mk hb; have HO7 := Aside0.mk (Kd.R_below HO6.out hb); have HRC7 := Aside0.mk (blk_below HRC6.out hb); have HPC7 := Aside0.mk (blk_below HPC.out hb); clear hb hpc))
  have HBt7 : Aside0 (Below B w w7) := ⟨HBt.out.trans (HB7.out.mono (Nat.le_trans (by rw [← HBq.out]; exact Nat.le_refl _) HBt.out.size))⟩
  have hf7 := blk_frozen HRC7.out 0
  have hc7 : w7.cell? ⟨B, 0, none⟩ = some (.slice none 0 0) := (blk_cell HRC7.out 0).trans rfl
  have hc8 : w7.cell? ⟨p, 0, none⟩ = some (.slice A2 c.live.length c2) := (blk_cell HPC7.out 0).trans rfl
  have hBB : B ≤ B := Nat.le_refl _
  by_cases hr : r = 0
  · have z0 : (r != 0) = false := by simp [hr]
    have HZ := Aside0.mk hr
    clear hr
    go_wp2
    refine bodyPost_ret (results_ct rfl _ _ B 24 #[.slice A2 c.live.length c2] (0, 0) _ rfl (blk_put (cs := #[.slice none 0 0]) HRC7.out 0 _ rfl) Tryd.underlying24 rfl (by kernel_rfl)) rfl ?_
    refine ⟨_, by rw [limitE, if_pos HZ.out]; rfl, ?_, by rw [HBq.out]; exact HBt7.out.setCell hBB _⟩
    rw [limitL, if_pos HZ.out, HBq.out]
    exact R_set_low HO7.out (by have := HSZ.out; omega) _
  · have z0 : (r != 0) = true := by simp [hr]
    have HZ := Aside0.mk hr
    clear hr
    go_wp2
    refine bodyPost_ret (results_ct rfl _ _ B 24 #[.slice none 0 0] (0, 0) _ rfl (blk_put (cs := #[.slice none 0 0]) HRC7.out 0 _ rfl) Tryd.underlying24 rfl (by kernel_rfl)) rfl ?_
    refine ⟨_, by rw [limitE, if_neg HZ.out]; rfl, ?_, by rw [HBq.out]; exact HBt7.out.setCell hBB _⟩
    rw [limitL, if_neg HZ.out]
    exact Kd.R_nil _ _ _ _ _
end Go.Proofs.YtpldcikmlpegpaaDoor.Col
end
