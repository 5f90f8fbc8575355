/-
A part of the proof of this: The tied card of the law PackReady of snowlinelaw02 holds: it answers true for every pack and every amount of rain, and changes nothing.
-/
import Derived.Test.YtpldcikmlpegpaaDoorPackReadyA1
import Derived.Test.YtpldcikmlpegpaaDoorPackReadyA2
import Derived.Test.YtpldcikmlpegpaaDoorPackReadyA3
import Derived.Test.YtpldcikmlpegpaaDoorPackReadyA4
section
namespace Go.Proofs.YtpldcikmlpegpaaDoor.PB
open Go.RowKit Go.Proofs.YtpldcikmlpegpaaDoorW.PrintWords Go.Proofs.YtpldcikmlpegpaaDoorW.PrintLast Go.Proofs.YtpldcikmlpegpaaDoorW.PrintMore
attribute [local go_sem] max2_int min2_int max_two min_two max_three min_three max_four min_four   -- for this text's walks alone
set_option linter.unusedVariables false
set_option linter.unusedSimpArgs false
def snowlinelaw02_sane.j0 : Nat → Int → Int → Int → Int → Int → Int → Int → ByteArray → Bool → List (S48) → List (S48) → List (S48) → Option (Bool)
  | 0, _, _, _, _, _, _, _, _, _, _, _, _ => none
  | k + 1, x2, x4, x7, x10, x12, x13, x15, x19, x112, x176000, x182000, x195000 => if x112 = true then (some false) else (if x2 = 142 then (if x4 = 10 then (if x7 = 13 then (if x10 = 0 then (if x12 = 1 then (if x13 = 42 then (if x15 = 27 then (if x19.toList = ([112, 97, 99, 107, 32, 52, 48, 47, 50, 47, 48, 32, 49, 48, 48, 47, 48, 47, 53] : List UInt8) then ((snowlineref02_Same.f k x176000 (([(⟨19, 0, 0⟩ : S48), (⟨105, 5, 0⟩ : S48)] : List (S48)))).bind fun t203 => (if t203 = true then ((snowlineref02_Same.f k x182000 (([(⟨92, 0, 3⟩ : S48)] : List (S48)))).bind fun t207 => (if t207 = true then ((snowlineref02_Same.f k x195000 (([(⟨142, 0, 3⟩ : S48)] : List (S48)))).bind fun t211 => (some t211)) else (some false))) else (some false))) else (some false)) else (some false)) else (some false)) else (some false)) else (some false)) else (some false)) else (some false)) else (some false))
def snowlinelaw02_sane.f (k : Nat)  : Option (Bool) := (snowlinelaw02_example.f).bind fun t162 => ((pack_Water.f k t162).bind fun bt166 => ((pack_Ready.f k t162).bind fun bt168 => ((pack_Apply.f t162 3 21 0).bind fun bt170 => ((pack_Apply.f t162 5 50 0).bind fun bt176 => ((pack_Weakest.f t162).bind fun bt182 => ((pack_Steepest.f k (([(⟨300, 0, 0⟩ : S48), (⟨20, 0, 0⟩ : S48)] : List (S48)))).bind fun bt188 => ((pack_Joined.f t162 1).bind fun bt190 => ((pack_Print.f k t162).bind fun bt195 => ((pack_Weakest.f ([] : List (S48))).bind fun bt197 => (if bt166.2 = 0 then (if bt168.2 = 0 then (if bt170.2.2 = 0 then (if bt176.2.2 = 0 then (if bt182.2.2 = 0 then (if bt188.2 = 0 then (if bt190.2 = 0 then (if bt195.2 = 0 then (snowlinelaw02_sane.j0 k bt166.1 bt168.1 bt170.2.1 bt176.2.1 bt182.1 bt182.2.1 bt188.1 bt195.1 (bt197.2.2 != 4) bt170.1 bt176.1 bt190.1) else (snowlinelaw02_sane.j0 k bt166.1 bt168.1 bt170.2.1 bt176.2.1 bt182.1 bt182.2.1 bt188.1 bt195.1 true bt170.1 bt176.1 bt190.1)) else (snowlinelaw02_sane.j0 k bt166.1 bt168.1 bt170.2.1 bt176.2.1 bt182.1 bt182.2.1 bt188.1 bt195.1 true bt170.1 bt176.1 bt190.1)) else (snowlinelaw02_sane.j0 k bt166.1 bt168.1 bt170.2.1 bt176.2.1 bt182.1 bt182.2.1 bt188.1 bt195.1 true bt170.1 bt176.1 bt190.1)) else (snowlinelaw02_sane.j0 k bt166.1 bt168.1 bt170.2.1 bt176.2.1 bt182.1 bt182.2.1 bt188.1 bt195.1 true bt170.1 bt176.1 bt190.1)) else (snowlinelaw02_sane.j0 k bt166.1 bt168.1 bt170.2.1 bt176.2.1 bt182.1 bt182.2.1 bt188.1 bt195.1 true bt170.1 bt176.1 bt190.1)) else (snowlinelaw02_sane.j0 k bt166.1 bt168.1 bt170.2.1 bt176.2.1 bt182.1 bt182.2.1 bt188.1 bt195.1 true bt170.1 bt176.1 bt190.1)) else (snowlinelaw02_sane.j0 k bt166.1 bt168.1 bt170.2.1 bt176.2.1 bt182.1 bt182.2.1 bt188.1 bt195.1 true bt170.1 bt176.1 bt190.1)) else (snowlinelaw02_sane.j0 k bt166.1 bt168.1 bt170.2.1 bt176.2.1 bt182.1 bt182.2.1 bt188.1 bt195.1 true bt170.1 bt176.1 bt190.1)))))))))))
theorem snowlinelaw02_sane.mono_l : ∀ k, (∀ y0 y1 y2 y3 y4 y5 y6 y7 y8 y9 y10 y11, LeO (snowlinelaw02_sane.j0 k y0 y1 y2 y3 y4 y5 y6 y7 y8 y9 y10 y11) (snowlinelaw02_sane.j0 (k + 1) y0 y1 y2 y3 y4 y5 y6 y7 y8 y9 y10 y11))
  | 0 => fun _ _ _ _ _ _ _ _ _ _ _ _ r h => by simp [snowlinelaw02_sane.j0] at h
  | k + 1 => by
    have ih0 := snowlinelaw02_sane.mono_l k
    · intro y0 y1 y2 y3 y4 y5 y6 y7 y8 y9 y10 y11
      unfold snowlinelaw02_sane.j0
      repeat' first
      | (with_reducible exact ih0 _ _ _ _ _ _ _ _ _ _ _ _)
      | (with_reducible exact pack_Print.mono _ _)
      | (with_reducible exact pack_Ready.mono _ _)
      | (with_reducible exact pack_Steepest.mono _ _)
      | (with_reducible exact pack_Water.mono _ _)
      | (with_reducible exact snowlineref02_Same.mono _ _ _)
      | (with_reducible exact LeO.refl _)
      | (with_reducible exact LeO.none _)
      | (with_reducible refine LeO.ite ?_ ?_)
      | (with_reducible refine LeO.bind ?_ (fun _ => ?_))
      | exact ih0 _ _ _ _ _ _ _ _ _ _ _ _
      | exact pack_Print.mono _ _
      | exact pack_Ready.mono _ _
      | exact pack_Steepest.mono _ _
      | exact pack_Water.mono _ _
      | exact snowlineref02_Same.mono _ _ _
      | exact LeO.none _
      | refine LeO.ite ?_ ?_
      | refine LeO.bind ?_ (fun _ => ?_)
theorem snowlinelaw02_sane.mono : ∀ k, LeO (snowlinelaw02_sane.f k ) (snowlinelaw02_sane.f (k + 1) ) := by
  intro  k
  have ih0 := snowlinelaw02_sane.mono_l k
  unfold snowlinelaw02_sane.f
  repeat' first
      | (with_reducible exact ih0 _ _ _ _ _ _ _ _ _ _ _ _)
      | (with_reducible exact pack_Print.mono _ _)
      | (with_reducible exact pack_Ready.mono _ _)
      | (with_reducible exact pack_Steepest.mono _ _)
      | (with_reducible exact pack_Water.mono _ _)
      | (with_reducible exact snowlineref02_Same.mono _ _ _)
      | (with_reducible exact LeO.refl _)
      | (with_reducible exact LeO.none _)
      | (with_reducible refine LeO.ite ?_ ?_)
      | (with_reducible refine LeO.bind ?_ (fun _ => ?_))
      | exact ih0 _ _ _ _ _ _ _ _ _ _ _ _
      | exact pack_Print.mono _ _
      | exact pack_Ready.mono _ _
      | exact pack_Steepest.mono _ _
      | exact pack_Water.mono _ _
      | exact snowlineref02_Same.mono _ _ _
      | exact LeO.none _
      | refine LeO.ite ?_ ?_
      | refine LeO.bind ?_ (fun _ => ?_)
set_option maxHeartbeats 8000000 in
set_option maxRecDepth 100000 in
theorem snowlinelaw02_sane.calls (k : Nat)  (r : Bool) (w : World) (hG : Glob w) (h : snowlinelaw02_sane.f k  = some r) :
    Calls Tryd.prog 18 #[] w fun e w' => e = .returned (.bool r) ∧ Below w.heap.size w w' := by
  have hu24 := Tryd.underlying24
  have hu26 := Tryd.underlying26
  have hu48 := Tryd.underlying48
  have HB := Aside0.mk (Below.refl w.heap.size w)
  have HGl := Aside0.mk hG
  clear hG
  have H : ((snowlinelaw02_example.f).bind fun t162 => ((pack_Water.f k t162).bind fun bt166 => ((pack_Ready.f k t162).bind fun bt168 => ((pack_Apply.f t162 3 21 0).bind fun bt170 => ((pack_Apply.f t162 5 50 0).bind fun bt176 => ((pack_Weakest.f t162).bind fun bt182 => ((pack_Steepest.f k (([(⟨300, 0, 0⟩ : S48), (⟨20, 0, 0⟩ : S48)] : List (S48)))).bind fun bt188 => ((pack_Joined.f t162 1).bind fun bt190 => ((pack_Print.f k t162).bind fun bt195 => ((pack_Weakest.f ([] : List (S48))).bind fun bt197 => (if bt166.2 = 0 then (if bt168.2 = 0 then (if bt170.2.2 = 0 then (if bt176.2.2 = 0 then (if bt182.2.2 = 0 then (if bt188.2 = 0 then (if bt190.2 = 0 then (if bt195.2 = 0 then (snowlinelaw02_sane.j0 k bt166.1 bt168.1 bt170.2.1 bt176.2.1 bt182.1 bt182.2.1 bt188.1 bt195.1 (bt197.2.2 != 4) bt170.1 bt176.1 bt190.1) else (snowlinelaw02_sane.j0 k bt166.1 bt168.1 bt170.2.1 bt176.2.1 bt182.1 bt182.2.1 bt188.1 bt195.1 true bt170.1 bt176.1 bt190.1)) else (snowlinelaw02_sane.j0 k bt166.1 bt168.1 bt170.2.1 bt176.2.1 bt182.1 bt182.2.1 bt188.1 bt195.1 true bt170.1 bt176.1 bt190.1)) else (snowlinelaw02_sane.j0 k bt166.1 bt168.1 bt170.2.1 bt176.2.1 bt182.1 bt182.2.1 bt188.1 bt195.1 true bt170.1 bt176.1 bt190.1)) else (snowlinelaw02_sane.j0 k bt166.1 bt168.1 bt170.2.1 bt176.2.1 bt182.1 bt182.2.1 bt188.1 bt195.1 true bt170.1 bt176.1 bt190.1)) else (snowlinelaw02_sane.j0 k bt166.1 bt168.1 bt170.2.1 bt176.2.1 bt182.1 bt182.2.1 bt188.1 bt195.1 true bt170.1 bt176.1 bt190.1)) else (snowlinelaw02_sane.j0 k bt166.1 bt168.1 bt170.2.1 bt176.2.1 bt182.1 bt182.2.1 bt188.1 bt195.1 true bt170.1 bt176.1 bt190.1)) else (snowlinelaw02_sane.j0 k bt166.1 bt168.1 bt170.2.1 bt176.2.1 bt182.1 bt182.2.1 bt188.1 bt195.1 true bt170.1 bt176.1 bt190.1)) else (snowlinelaw02_sane.j0 k bt166.1 bt168.1 bt170.2.1 bt176.2.1 bt182.1 bt182.2.1 bt188.1 bt195.1 true bt170.1 bt176.1 bt190.1)))))))))))) = some r := h
  clear h
  replace H := Option.bind_eq_some_iff.mp H
  obtain ⟨t162, A10, H⟩ := H
  replace H : ((pack_Water.f k t162).bind fun bt166 => ((pack_Ready.f k t162).bind fun bt168 => ((pack_Apply.f t162 3 21 0).bind fun bt170 => ((pack_Apply.f t162 5 50 0).bind fun bt176 => ((pack_Weakest.f t162).bind fun bt182 => ((pack_Steepest.f k (([(⟨300, 0, 0⟩ : S48), (⟨20, 0, 0⟩ : S48)] : List (S48)))).bind fun bt188 => ((pack_Joined.f t162 1).bind fun bt190 => ((pack_Print.f k t162).bind fun bt195 => ((pack_Weakest.f ([] : List (S48))).bind fun bt197 => (if bt166.2 = 0 then (if bt168.2 = 0 then (if bt170.2.2 = 0 then (if bt176.2.2 = 0 then (if bt182.2.2 = 0 then (if bt188.2 = 0 then (if bt190.2 = 0 then (if bt195.2 = 0 then (snowlinelaw02_sane.j0 k bt166.1 bt168.1 bt170.2.1 bt176.2.1 bt182.1 bt182.2.1 bt188.1 bt195.1 (bt197.2.2 != 4) bt170.1 bt176.1 bt190.1) else (snowlinelaw02_sane.j0 k bt166.1 bt168.1 bt170.2.1 bt176.2.1 bt182.1 bt182.2.1 bt188.1 bt195.1 true bt170.1 bt176.1 bt190.1)) else (snowlinelaw02_sane.j0 k bt166.1 bt168.1 bt170.2.1 bt176.2.1 bt182.1 bt182.2.1 bt188.1 bt195.1 true bt170.1 bt176.1 bt190.1)) else (snowlinelaw02_sane.j0 k bt166.1 bt168.1 bt170.2.1 bt176.2.1 bt182.1 bt182.2.1 bt188.1 bt195.1 true bt170.1 bt176.1 bt190.1)) else (snowlinelaw02_sane.j0 k bt166.1 bt168.1 bt170.2.1 bt176.2.1 bt182.1 bt182.2.1 bt188.1 bt195.1 true bt170.1 bt176.1 bt190.1)) else (snowlinelaw02_sane.j0 k bt166.1 bt168.1 bt170.2.1 bt176.2.1 bt182.1 bt182.2.1 bt188.1 bt195.1 true bt170.1 bt176.1 bt190.1)) else (snowlinelaw02_sane.j0 k bt166.1 bt168.1 bt170.2.1 bt176.2.1 bt182.1 bt182.2.1 bt188.1 bt195.1 true bt170.1 bt176.1 bt190.1)) else (snowlinelaw02_sane.j0 k bt166.1 bt168.1 bt170.2.1 bt176.2.1 bt182.1 bt182.2.1 bt188.1 bt195.1 true bt170.1 bt176.1 bt190.1)) else (snowlinelaw02_sane.j0 k bt166.1 bt168.1 bt170.2.1 bt176.2.1 bt182.1 bt182.2.1 bt188.1 bt195.1 true bt170.1 bt176.1 bt190.1))))))))))) = some r := H
  have A1 := Aside0.mk A10
  clear A10
  replace H := Option.bind_eq_some_iff.mp H
  obtain ⟨⟨t166, t167⟩, A20, H⟩ := H
  replace H : ((pack_Ready.f k t162).bind fun bt168 => ((pack_Apply.f t162 3 21 0).bind fun bt170 => ((pack_Apply.f t162 5 50 0).bind fun bt176 => ((pack_Weakest.f t162).bind fun bt182 => ((pack_Steepest.f k (([(⟨300, 0, 0⟩ : S48), (⟨20, 0, 0⟩ : S48)] : List (S48)))).bind fun bt188 => ((pack_Joined.f t162 1).bind fun bt190 => ((pack_Print.f k t162).bind fun bt195 => ((pack_Weakest.f ([] : List (S48))).bind fun bt197 => (if t167 = 0 then (if bt168.2 = 0 then (if bt170.2.2 = 0 then (if bt176.2.2 = 0 then (if bt182.2.2 = 0 then (if bt188.2 = 0 then (if bt190.2 = 0 then (if bt195.2 = 0 then (snowlinelaw02_sane.j0 k t166 bt168.1 bt170.2.1 bt176.2.1 bt182.1 bt182.2.1 bt188.1 bt195.1 (bt197.2.2 != 4) bt170.1 bt176.1 bt190.1) else (snowlinelaw02_sane.j0 k t166 bt168.1 bt170.2.1 bt176.2.1 bt182.1 bt182.2.1 bt188.1 bt195.1 true bt170.1 bt176.1 bt190.1)) else (snowlinelaw02_sane.j0 k t166 bt168.1 bt170.2.1 bt176.2.1 bt182.1 bt182.2.1 bt188.1 bt195.1 true bt170.1 bt176.1 bt190.1)) else (snowlinelaw02_sane.j0 k t166 bt168.1 bt170.2.1 bt176.2.1 bt182.1 bt182.2.1 bt188.1 bt195.1 true bt170.1 bt176.1 bt190.1)) else (snowlinelaw02_sane.j0 k t166 bt168.1 bt170.2.1 bt176.2.1 bt182.1 bt182.2.1 bt188.1 bt195.1 true bt170.1 bt176.1 bt190.1)) else (snowlinelaw02_sane.j0 k t166 bt168.1 bt170.2.1 bt176.2.1 bt182.1 bt182.2.1 bt188.1 bt195.1 true bt170.1 bt176.1 bt190.1)) else (snowlinelaw02_sane.j0 k t166 bt168.1 bt170.2.1 bt176.2.1 bt182.1 bt182.2.1 bt188.1 bt195.1 true bt170.1 bt176.1 bt190.1)) else (snowlinelaw02_sane.j0 k t166 bt168.1 bt170.2.1 bt176.2.1 bt182.1 bt182.2.1 bt188.1 bt195.1 true bt170.1 bt176.1 bt190.1)) else (snowlinelaw02_sane.j0 k t166 bt168.1 bt170.2.1 bt176.2.1 bt182.1 bt182.2.1 bt188.1 bt195.1 true bt170.1 bt176.1 bt190.1)))))))))) = some r := H
  have A2 := Aside0.mk A20
  clear A20
  replace H := Option.bind_eq_some_iff.mp H
  obtain ⟨⟨t168, t169⟩, A30, H⟩ := H
  replace H : ((pack_Apply.f t162 3 21 0).bind fun bt170 => ((pack_Apply.f t162 5 50 0).bind fun bt176 => ((pack_Weakest.f t162).bind fun bt182 => ((pack_Steepest.f k (([(⟨300, 0, 0⟩ : S48), (⟨20, 0, 0⟩ : S48)] : List (S48)))).bind fun bt188 => ((pack_Joined.f t162 1).bind fun bt190 => ((pack_Print.f k t162).bind fun bt195 => ((pack_Weakest.f ([] : List (S48))).bind fun bt197 => (if t167 = 0 then (if t169 = 0 then (if bt170.2.2 = 0 then (if bt176.2.2 = 0 then (if bt182.2.2 = 0 then (if bt188.2 = 0 then (if bt190.2 = 0 then (if bt195.2 = 0 then (snowlinelaw02_sane.j0 k t166 t168 bt170.2.1 bt176.2.1 bt182.1 bt182.2.1 bt188.1 bt195.1 (bt197.2.2 != 4) bt170.1 bt176.1 bt190.1) else (snowlinelaw02_sane.j0 k t166 t168 bt170.2.1 bt176.2.1 bt182.1 bt182.2.1 bt188.1 bt195.1 true bt170.1 bt176.1 bt190.1)) else (snowlinelaw02_sane.j0 k t166 t168 bt170.2.1 bt176.2.1 bt182.1 bt182.2.1 bt188.1 bt195.1 true bt170.1 bt176.1 bt190.1)) else (snowlinelaw02_sane.j0 k t166 t168 bt170.2.1 bt176.2.1 bt182.1 bt182.2.1 bt188.1 bt195.1 true bt170.1 bt176.1 bt190.1)) else (snowlinelaw02_sane.j0 k t166 t168 bt170.2.1 bt176.2.1 bt182.1 bt182.2.1 bt188.1 bt195.1 true bt170.1 bt176.1 bt190.1)) else (snowlinelaw02_sane.j0 k t166 t168 bt170.2.1 bt176.2.1 bt182.1 bt182.2.1 bt188.1 bt195.1 true bt170.1 bt176.1 bt190.1)) else (snowlinelaw02_sane.j0 k t166 t168 bt170.2.1 bt176.2.1 bt182.1 bt182.2.1 bt188.1 bt195.1 true bt170.1 bt176.1 bt190.1)) else (snowlinelaw02_sane.j0 k t166 t168 bt170.2.1 bt176.2.1 bt182.1 bt182.2.1 bt188.1 bt195.1 true bt170.1 bt176.1 bt190.1)) else (snowlinelaw02_sane.j0 k t166 t168 bt170.2.1 bt176.2.1 bt182.1 bt182.2.1 bt188.1 bt195.1 true bt170.1 bt176.1 bt190.1))))))))) = some r := H
  have A3 := Aside0.mk A30
  clear A30
  replace H := Option.bind_eq_some_iff.mp H
  obtain ⟨⟨t170, t173, t174⟩, A40, H⟩ := H
  replace H : ((pack_Apply.f t162 5 50 0).bind fun bt176 => ((pack_Weakest.f t162).bind fun bt182 => ((pack_Steepest.f k (([(⟨300, 0, 0⟩ : S48), (⟨20, 0, 0⟩ : S48)] : List (S48)))).bind fun bt188 => ((pack_Joined.f t162 1).bind fun bt190 => ((pack_Print.f k t162).bind fun bt195 => ((pack_Weakest.f ([] : List (S48))).bind fun bt197 => (if t167 = 0 then (if t169 = 0 then (if t174 = 0 then (if bt176.2.2 = 0 then (if bt182.2.2 = 0 then (if bt188.2 = 0 then (if bt190.2 = 0 then (if bt195.2 = 0 then (snowlinelaw02_sane.j0 k t166 t168 t173 bt176.2.1 bt182.1 bt182.2.1 bt188.1 bt195.1 (bt197.2.2 != 4) t170 bt176.1 bt190.1) else (snowlinelaw02_sane.j0 k t166 t168 t173 bt176.2.1 bt182.1 bt182.2.1 bt188.1 bt195.1 true t170 bt176.1 bt190.1)) else (snowlinelaw02_sane.j0 k t166 t168 t173 bt176.2.1 bt182.1 bt182.2.1 bt188.1 bt195.1 true t170 bt176.1 bt190.1)) else (snowlinelaw02_sane.j0 k t166 t168 t173 bt176.2.1 bt182.1 bt182.2.1 bt188.1 bt195.1 true t170 bt176.1 bt190.1)) else (snowlinelaw02_sane.j0 k t166 t168 t173 bt176.2.1 bt182.1 bt182.2.1 bt188.1 bt195.1 true t170 bt176.1 bt190.1)) else (snowlinelaw02_sane.j0 k t166 t168 t173 bt176.2.1 bt182.1 bt182.2.1 bt188.1 bt195.1 true t170 bt176.1 bt190.1)) else (snowlinelaw02_sane.j0 k t166 t168 t173 bt176.2.1 bt182.1 bt182.2.1 bt188.1 bt195.1 true t170 bt176.1 bt190.1)) else (snowlinelaw02_sane.j0 k t166 t168 t173 bt176.2.1 bt182.1 bt182.2.1 bt188.1 bt195.1 true t170 bt176.1 bt190.1)) else (snowlinelaw02_sane.j0 k t166 t168 t173 bt176.2.1 bt182.1 bt182.2.1 bt188.1 bt195.1 true t170 bt176.1 bt190.1)))))))) = some r := H
  have A4 := Aside0.mk A40
  clear A40
  replace H := Option.bind_eq_some_iff.mp H
  obtain ⟨⟨t176, t179, t180⟩, A50, H⟩ := H
  replace H : ((pack_Weakest.f t162).bind fun bt182 => ((pack_Steepest.f k (([(⟨300, 0, 0⟩ : S48), (⟨20, 0, 0⟩ : S48)] : List (S48)))).bind fun bt188 => ((pack_Joined.f t162 1).bind fun bt190 => ((pack_Print.f k t162).bind fun bt195 => ((pack_Weakest.f ([] : List (S48))).bind fun bt197 => (if t167 = 0 then (if t169 = 0 then (if t174 = 0 then (if t180 = 0 then (if bt182.2.2 = 0 then (if bt188.2 = 0 then (if bt190.2 = 0 then (if bt195.2 = 0 then (snowlinelaw02_sane.j0 k t166 t168 t173 t179 bt182.1 bt182.2.1 bt188.1 bt195.1 (bt197.2.2 != 4) t170 t176 bt190.1) else (snowlinelaw02_sane.j0 k t166 t168 t173 t179 bt182.1 bt182.2.1 bt188.1 bt195.1 true t170 t176 bt190.1)) else (snowlinelaw02_sane.j0 k t166 t168 t173 t179 bt182.1 bt182.2.1 bt188.1 bt195.1 true t170 t176 bt190.1)) else (snowlinelaw02_sane.j0 k t166 t168 t173 t179 bt182.1 bt182.2.1 bt188.1 bt195.1 true t170 t176 bt190.1)) else (snowlinelaw02_sane.j0 k t166 t168 t173 t179 bt182.1 bt182.2.1 bt188.1 bt195.1 true t170 t176 bt190.1)) else (snowlinelaw02_sane.j0 k t166 t168 t173 t179 bt182.1 bt182.2.1 bt188.1 bt195.1 true t170 t176 bt190.1)) else (snowlinelaw02_sane.j0 k t166 t168 t173 t179 bt182.1 bt182.2.1 bt188.1 bt195.1 true t170 t176 bt190.1)) else (snowlinelaw02_sane.j0 k t166 t168 t173 t179 bt182.1 bt182.2.1 bt188.1 bt195.1 true t170 t176 bt190.1)) else (snowlinelaw02_sane.j0 k t166 t168 t173 t179 bt182.1 bt182.2.1 bt188.1 bt195.1 true t170 t176 bt190.1))))))) = some r := H
  have A5 := Aside0.mk A50
  clear A50
  replace H := Option.bind_eq_some_iff.mp H
  obtain ⟨⟨t182, t183, t184⟩, A60, H⟩ := H
  replace H : ((pack_Steepest.f k (([(⟨300, 0, 0⟩ : S48), (⟨20, 0, 0⟩ : S48)] : List (S48)))).bind fun bt188 => ((pack_Joined.f t162 1).bind fun bt190 => ((pack_Print.f k t162).bind fun bt195 => ((pack_Weakest.f ([] : List (S48))).bind fun bt197 => (if t167 = 0 then (if t169 = 0 then (if t174 = 0 then (if t180 = 0 then (if t184 = 0 then (if bt188.2 = 0 then (if bt190.2 = 0 then (if bt195.2 = 0 then (snowlinelaw02_sane.j0 k t166 t168 t173 t179 t182 t183 bt188.1 bt195.1 (bt197.2.2 != 4) t170 t176 bt190.1) else (snowlinelaw02_sane.j0 k t166 t168 t173 t179 t182 t183 bt188.1 bt195.1 true t170 t176 bt190.1)) else (snowlinelaw02_sane.j0 k t166 t168 t173 t179 t182 t183 bt188.1 bt195.1 true t170 t176 bt190.1)) else (snowlinelaw02_sane.j0 k t166 t168 t173 t179 t182 t183 bt188.1 bt195.1 true t170 t176 bt190.1)) else (snowlinelaw02_sane.j0 k t166 t168 t173 t179 t182 t183 bt188.1 bt195.1 true t170 t176 bt190.1)) else (snowlinelaw02_sane.j0 k t166 t168 t173 t179 t182 t183 bt188.1 bt195.1 true t170 t176 bt190.1)) else (snowlinelaw02_sane.j0 k t166 t168 t173 t179 t182 t183 bt188.1 bt195.1 true t170 t176 bt190.1)) else (snowlinelaw02_sane.j0 k t166 t168 t173 t179 t182 t183 bt188.1 bt195.1 true t170 t176 bt190.1)) else (snowlinelaw02_sane.j0 k t166 t168 t173 t179 t182 t183 bt188.1 bt195.1 true t170 t176 bt190.1)))))) = some r := H
  have A6 := Aside0.mk A60
  clear A60
  obtain ⟨y185, hy185⟩ : ∃ y_ : List (S48), y_ = (([(⟨300, 0, 0⟩ : S48), (⟨20, 0, 0⟩ : S48)] : List (S48))) := ⟨_, rfl⟩
  replace H : ((pack_Steepest.f k y185).bind fun bt188 => ((pack_Joined.f t162 1).bind fun bt190 => ((pack_Print.f k t162).bind fun bt195 => ((pack_Weakest.f ([] : List (S48))).bind fun bt197 => (if t167 = 0 then (if t169 = 0 then (if t174 = 0 then (if t180 = 0 then (if t184 = 0 then (if bt188.2 = 0 then (if bt190.2 = 0 then (if bt195.2 = 0 then (snowlinelaw02_sane.j0 k t166 t168 t173 t179 t182 t183 bt188.1 bt195.1 (bt197.2.2 != 4) t170 t176 bt190.1) else (snowlinelaw02_sane.j0 k t166 t168 t173 t179 t182 t183 bt188.1 bt195.1 true t170 t176 bt190.1)) else (snowlinelaw02_sane.j0 k t166 t168 t173 t179 t182 t183 bt188.1 bt195.1 true t170 t176 bt190.1)) else (snowlinelaw02_sane.j0 k t166 t168 t173 t179 t182 t183 bt188.1 bt195.1 true t170 t176 bt190.1)) else (snowlinelaw02_sane.j0 k t166 t168 t173 t179 t182 t183 bt188.1 bt195.1 true t170 t176 bt190.1)) else (snowlinelaw02_sane.j0 k t166 t168 t173 t179 t182 t183 bt188.1 bt195.1 true t170 t176 bt190.1)) else (snowlinelaw02_sane.j0 k t166 t168 t173 t179 t182 t183 bt188.1 bt195.1 true t170 t176 bt190.1)) else (snowlinelaw02_sane.j0 k t166 t168 t173 t179 t182 t183 bt188.1 bt195.1 true t170 t176 bt190.1)) else (snowlinelaw02_sane.j0 k t166 t168 t173 t179 t182 t183 bt188.1 bt195.1 true t170 t176 bt190.1)))))) = some r := by first | (rw [hy185]; with_reducible exact H) | (have H2_ := (Option.bind_some _ _).symm.trans H; rw [hy185]; with_reducible exact H2_) | (have H2_ := (Option.bind_some _ _).symm.trans H; with_reducible exact H2_) | with_reducible exact H | (rw [hy185]; exact H) | exact H
  have Ny185 := Aside0.mk hy185
  clear hy185
  replace H := Option.bind_eq_some_iff.mp H
  obtain ⟨⟨t188, t189⟩, A70, H⟩ := H
  replace H : ((pack_Joined.f t162 1).bind fun bt190 => ((pack_Print.f k t162).bind fun bt195 => ((pack_Weakest.f ([] : List (S48))).bind fun bt197 => (if t167 = 0 then (if t169 = 0 then (if t174 = 0 then (if t180 = 0 then (if t184 = 0 then (if t189 = 0 then (if bt190.2 = 0 then (if bt195.2 = 0 then (snowlinelaw02_sane.j0 k t166 t168 t173 t179 t182 t183 t188 bt195.1 (bt197.2.2 != 4) t170 t176 bt190.1) else (snowlinelaw02_sane.j0 k t166 t168 t173 t179 t182 t183 t188 bt195.1 true t170 t176 bt190.1)) else (snowlinelaw02_sane.j0 k t166 t168 t173 t179 t182 t183 t188 bt195.1 true t170 t176 bt190.1)) else (snowlinelaw02_sane.j0 k t166 t168 t173 t179 t182 t183 t188 bt195.1 true t170 t176 bt190.1)) else (snowlinelaw02_sane.j0 k t166 t168 t173 t179 t182 t183 t188 bt195.1 true t170 t176 bt190.1)) else (snowlinelaw02_sane.j0 k t166 t168 t173 t179 t182 t183 t188 bt195.1 true t170 t176 bt190.1)) else (snowlinelaw02_sane.j0 k t166 t168 t173 t179 t182 t183 t188 bt195.1 true t170 t176 bt190.1)) else (snowlinelaw02_sane.j0 k t166 t168 t173 t179 t182 t183 t188 bt195.1 true t170 t176 bt190.1)) else (snowlinelaw02_sane.j0 k t166 t168 t173 t179 t182 t183 t188 bt195.1 true t170 t176 bt190.1))))) = some r := H
  have A7 := Aside0.mk A70
  clear A70
  replace H := Option.bind_eq_some_iff.mp H
  obtain ⟨⟨t190, t193⟩, A80, H⟩ := H
  replace H : ((pack_Print.f k t162).bind fun bt195 => ((pack_Weakest.f ([] : List (S48))).bind fun bt197 => (if t167 = 0 then (if t169 = 0 then (if t174 = 0 then (if t180 = 0 then (if t184 = 0 then (if t189 = 0 then (if t193 = 0 then (if bt195.2 = 0 then (snowlinelaw02_sane.j0 k t166 t168 t173 t179 t182 t183 t188 bt195.1 (bt197.2.2 != 4) t170 t176 t190) else (snowlinelaw02_sane.j0 k t166 t168 t173 t179 t182 t183 t188 bt195.1 true t170 t176 t190)) else (snowlinelaw02_sane.j0 k t166 t168 t173 t179 t182 t183 t188 bt195.1 true t170 t176 t190)) else (snowlinelaw02_sane.j0 k t166 t168 t173 t179 t182 t183 t188 bt195.1 true t170 t176 t190)) else (snowlinelaw02_sane.j0 k t166 t168 t173 t179 t182 t183 t188 bt195.1 true t170 t176 t190)) else (snowlinelaw02_sane.j0 k t166 t168 t173 t179 t182 t183 t188 bt195.1 true t170 t176 t190)) else (snowlinelaw02_sane.j0 k t166 t168 t173 t179 t182 t183 t188 bt195.1 true t170 t176 t190)) else (snowlinelaw02_sane.j0 k t166 t168 t173 t179 t182 t183 t188 bt195.1 true t170 t176 t190)) else (snowlinelaw02_sane.j0 k t166 t168 t173 t179 t182 t183 t188 bt195.1 true t170 t176 t190)))) = some r := H
  have A8 := Aside0.mk A80
  clear A80
  replace H := Option.bind_eq_some_iff.mp H
  obtain ⟨⟨t195, t196⟩, A90, H⟩ := H
  replace H : ((pack_Weakest.f ([] : List (S48))).bind fun bt197 => (if t167 = 0 then (if t169 = 0 then (if t174 = 0 then (if t180 = 0 then (if t184 = 0 then (if t189 = 0 then (if t193 = 0 then (if t196 = 0 then (snowlinelaw02_sane.j0 k t166 t168 t173 t179 t182 t183 t188 t195 (bt197.2.2 != 4) t170 t176 t190) else (snowlinelaw02_sane.j0 k t166 t168 t173 t179 t182 t183 t188 t195 true t170 t176 t190)) else (snowlinelaw02_sane.j0 k t166 t168 t173 t179 t182 t183 t188 t195 true t170 t176 t190)) else (snowlinelaw02_sane.j0 k t166 t168 t173 t179 t182 t183 t188 t195 true t170 t176 t190)) else (snowlinelaw02_sane.j0 k t166 t168 t173 t179 t182 t183 t188 t195 true t170 t176 t190)) else (snowlinelaw02_sane.j0 k t166 t168 t173 t179 t182 t183 t188 t195 true t170 t176 t190)) else (snowlinelaw02_sane.j0 k t166 t168 t173 t179 t182 t183 t188 t195 true t170 t176 t190)) else (snowlinelaw02_sane.j0 k t166 t168 t173 t179 t182 t183 t188 t195 true t170 t176 t190)) else (snowlinelaw02_sane.j0 k t166 t168 t173 t179 t182 t183 t188 t195 true t170 t176 t190))) = some r := H
  have A9 := Aside0.mk A90
  clear A90
  replace H := Option.bind_eq_some_iff.mp H
  obtain ⟨⟨t197, t198, t199⟩, A100, H⟩ := H
  replace H : (if t167 = 0 then (if t169 = 0 then (if t174 = 0 then (if t180 = 0 then (if t184 = 0 then (if t189 = 0 then (if t193 = 0 then (if t196 = 0 then (snowlinelaw02_sane.j0 k t166 t168 t173 t179 t182 t183 t188 t195 (t199 != 4) t170 t176 t190) else (snowlinelaw02_sane.j0 k t166 t168 t173 t179 t182 t183 t188 t195 true t170 t176 t190)) else (snowlinelaw02_sane.j0 k t166 t168 t173 t179 t182 t183 t188 t195 true t170 t176 t190)) else (snowlinelaw02_sane.j0 k t166 t168 t173 t179 t182 t183 t188 t195 true t170 t176 t190)) else (snowlinelaw02_sane.j0 k t166 t168 t173 t179 t182 t183 t188 t195 true t170 t176 t190)) else (snowlinelaw02_sane.j0 k t166 t168 t173 t179 t182 t183 t188 t195 true t170 t176 t190)) else (snowlinelaw02_sane.j0 k t166 t168 t173 t179 t182 t183 t188 t195 true t170 t176 t190)) else (snowlinelaw02_sane.j0 k t166 t168 t173 t179 t182 t183 t188 t195 true t170 t176 t190)) else (snowlinelaw02_sane.j0 k t166 t168 t173 t179 t182 t183 t188 t195 true t170 t176 t190)) = some r := H
  have A10 := Aside0.mk A100
  clear A100
  have HC11 := Aside0.mk H
  clear H
  go_enter Tryd.func18, Tryd.ntmps18
  go_upto_region 11 with (first | ((with_reducible refine gate_callee (f := 57) rfl ?_); refine goesL_ (some 24) rfl rfl Tryd.func57 (by kernel_rfl) rfl #[] rfl (by (try simp only [List.map_toArray, List.map_cons, List.map_nil]); first | done | rfl | (simp only [List.length_drop, List.length_take]; rfl)) ?_; (with_reducible refine (snowlinelaw02_example.calls  t162 _ A1.out).mono ?_); rintro e w12 ⟨v163, rfl, ho0, hb⟩; refine ⟨_, rfl, ?_⟩; have n0_ := Aside0.mk (Kd.R_lower ho0 (below_size (by repeat (first | (with_reducible first | exact HB.out | apply below_alloc | apply pw_below_drewN | apply below_drew1) | exact HB.out)))); have n1_ := Aside0.mk (below_step (by repeat (first | (with_reducible first | exact HB.out | apply below_alloc | apply pw_below_drewN | apply below_drew1) | exact HB.out)) hb); clear HB; have HO164 := n0_; have HB := n1_; clear n0_ n1_; (try clear hb); (try clear hb2); (try clear hk); (try clear hi); (try clear ho0)) | ((with_reducible refine gate_dst (N := 1) rfl ?_); (try (refine gate_guard (by rfl) ?_; dsimp only)); refine box_event ?hg (N := 1) ?hd (cs := #[.slice none 0 0]) (t := 24) ?hr ?_; (case hd => rfl); (case hg => rfl); (case hr => first | (go_simp; done) | (go_simp; rfl)); intro gb165 hg w13 hbox hb; have n0_ := Aside0.mk (Kd.R_below (by (with_reducible repeat (first | apply Kd.R_alloc | apply Kd.R_drewN | apply Kd.R_drew)); exact HO164.out) hb); have n1_ := Aside0.mk (below_step (by repeat (first | (with_reducible first | exact HB.out | apply below_alloc | apply pw_below_drewN | apply below_drew1) | exact HB.out)) hb); have n2_ := Aside0.mk (hbox); have n3_ := Aside0.mk ((by rw [hg]; exact (below_size (by repeat (first | (with_reducible first | exact HB.out | apply below_alloc | apply pw_below_drewN | apply below_drew1) | exact HB.out))) : w.heap.size ≤ gb165)); have n4_ := Aside0.mk ((by rw [hg]; exact (below_size (by repeat (first | (with_reducible first | exact HB.out | apply below_alloc | apply pw_below_drewN | apply below_drew1) | exact HB.out))) : w.heap.size ≤ gb165)); clear HO164; clear HB; have HO164 := n0_; have HB := n1_; have BK165 := n2_; have GW165 := n3_; have GE165 := n4_; clear n0_ n1_ n2_ n3_ n4_; clear hb hbox hg; obtain ⟨Ao14, co14, eo14⟩ := Kd.R_slice HO164.out; subst eo14; have hcz15_0 : w13.cell? ⟨gb165, 0, none⟩ = some (.slice none 0 0) := (blk_cell BK165.out 0).trans rfl; have hfz15_0 := blk_frozen BK165.out 0) | ((with_reducible refine gate_callee (f := 24) rfl ?_); refine goesL_ (some 27) rfl rfl Tryd.func24 (by kernel_rfl) rfl #[.agg #[.slice Ao14 t162.length co14]] rfl (by (try simp only [List.map_toArray, List.map_cons, List.map_nil]); first | done | rfl | (simp only [List.length_drop, List.length_take]; rfl)) ?_; (with_reducible refine (pack_Water.calls k _ _ t162 t166 t167 _ ?side1 ?side2 A2.out).mono ?_); (case side1 => refine (Kd.R_reads' (e := 48) (base := w.heap.size) (ok := fun k_ => True) (n := t162.length) (c := co14) ?_).2.2; exact (by (with_reducible repeat (first | apply Kd.R_alloc | apply Kd.R_drewN | apply Kd.R_drew)); exact (Kd.R_mono (Kd.R_far (p := ⟨gb165, 0, none⟩) (Kd.R_types HO164.out BK165.out (by decide)) (fun _ hk => hk.2) (.slice Ao14 t162.length co14)) (fun _ h_ => h_.1)))); (case side2 => exact (Kd.R_reads' HO164.out).2.1); rintro e w16 ⟨rfl, hb⟩; refine ⟨_, rfl, ?_⟩; have n0_ := Aside0.mk (Kd.R_below (by (with_reducible repeat (first | apply Kd.R_alloc | apply Kd.R_drewN | apply Kd.R_drew)); exact (Kd.R_mono (Kd.R_far (p := ⟨gb165, 0, none⟩) (Kd.R_types HO164.out BK165.out (by decide)) (fun _ hk => hk.2) (.slice Ao14 t162.length co14)) (fun _ h_ => h_.1))) hb); have n1_ := Aside0.mk (blk_below (g := gb165) (o := .cells #[.slice Ao14 t162.length co14] 24 (0, 0)) (by (with_reducible repeat (first | refine blk_drewN ?_ _ | refine blk_drew ?_ | refine blk_alloc ?_ _)); refine blk_put (cs := #[.slice none 0 0]) ?_ 0 _ rfl; (with_reducible repeat (first | refine blk_drewN ?_ _ | refine blk_drew ?_ | refine blk_alloc ?_ _)); exact BK165.out) hb); have n2_ := Aside0.mk (below_step (by repeat (first | (with_reducible first | exact HB.out | apply below_alloc | apply pw_below_drewN | apply below_drew1 | refine below_set ?_ GE165.out) | exact HB.out)) hb); clear HO164; clear BK165; clear HB; have HO164 := n0_; have BK165 := n1_; have HB := n2_; clear n0_ n1_ n2_; (try clear hb); (try clear hb2); (try clear hk); (try clear hi); have hcz17_0 : w16.cell? ⟨gb165, 0, none⟩ = some (.slice Ao14 t162.length co14) := (blk_cell BK165.out 0).trans rfl; have hfz17_0 := blk_frozen BK165.out 0) | ((with_reducible refine gate_callee (f := 26) rfl ?_); refine goesL_ (some 32) rfl rfl Tryd.func26 (by kernel_rfl) rfl #[.agg #[.slice Ao14 t162.length co14]] rfl (by (try simp only [List.map_toArray, List.map_cons, List.map_nil]); first | done | rfl | (simp only [List.length_drop, List.length_take]; rfl)) ?_; (with_reducible refine (pack_Ready.calls k _ _ t162 t168 t169 _ ?side1 ?side2 A3.out).mono ?_); (case side1 => repeat (first | exact (Kd.R_reads' HO164.out).2.2 | (with_reducible refine Kd.C_alloc ?_ _) | (with_reducible refine Kd.C_drewN ?_ _) | (with_reducible refine Kd.C_drew ?_))); (case side2 => exact (Kd.R_reads' HO164.out).2.1); rintro e w18 ⟨rfl, hb⟩; refine ⟨_, rfl, ?_⟩; have n0_ := Aside0.mk (Kd.R_below (by (with_reducible repeat (first | apply Kd.R_alloc | apply Kd.R_drewN | apply Kd.R_drew)); exact HO164.out) hb); have n1_ := Aside0.mk (blk_below (g := gb165) (o := .cells #[.slice Ao14 t162.length co14] 24 (0, 0)) (by (with_reducible repeat (first | refine blk_drewN ?_ _ | refine blk_drew ?_ | refine blk_alloc ?_ _)); exact BK165.out) hb); have n2_ := Aside0.mk (below_step (by repeat (first | (with_reducible first | exact HB.out | apply below_alloc | apply pw_below_drewN | apply below_drew1 | refine below_set ?_ GE165.out) | exact HB.out)) hb); clear HO164; clear BK165; clear HB; have HO164 := n0_; have BK165 := n1_; have HB := n2_; clear n0_ n1_ n2_; (try clear hb); (try clear hb2); (try clear hk); (try clear hi); have hcz19_0 : w18.cell? ⟨gb165, 0, none⟩ = some (.slice Ao14 t162.length co14) := (blk_cell BK165.out 0).trans rfl; have hfz19_0 := blk_frozen BK165.out 0) | ((with_reducible refine gate_callee (f := 21) rfl ?_); refine goesL_ (some 38) rfl rfl Tryd.func21 (by kernel_rfl) rfl #[.agg #[.slice Ao14 t162.length co14], .agg #[.int .i64 3, .int .i64 21, .int .i64 0]] rfl (by (try simp only [List.map_toArray, List.map_cons, List.map_nil]); first | done | rfl | (simp only [List.length_drop, List.length_take]; rfl)) ?_; (with_reducible refine (pack_Apply.calls _ _ t162 3 21 0 t170 t173 t174 _ ?side1 ?side2 A4.out).mono ?_); (case side1 => repeat (first | exact (Kd.R_reads' HO164.out).2.2 | (with_reducible refine Kd.C_alloc ?_ _) | (with_reducible refine Kd.C_drewN ?_ _) | (with_reducible refine Kd.C_drew ?_))); (case side2 => exact (Kd.R_reads' HO164.out).2.1); rintro e w20 ⟨v171, rfl, ho0, hb⟩; refine ⟨_, rfl, ?_⟩; have n0_ := Aside0.mk (Kd.R_elder' (by (with_reducible repeat (first | apply Kd.R_alloc | apply Kd.R_drewN | apply Kd.R_drew)); exact HO164.out) (Kd.R_base ho0) hb); have n1_ := Aside0.mk (Kd.R_lower (Kd.R_new' ho0 (Kd.R_lt (by (with_reducible repeat (first | apply Kd.R_alloc | apply Kd.R_drewN | apply Kd.R_drew)); exact HO164.out))) (below_size (by repeat (first | (with_reducible first | exact HB.out | apply below_alloc | apply pw_below_drewN | apply below_drew1 | refine below_set ?_ GE165.out) | exact HB.out)))); have n2_ := Aside0.mk (blk_below (g := gb165) (o := .cells #[.slice Ao14 t162.length co14] 24 (0, 0)) (by (with_reducible repeat (first | refine blk_drewN ?_ _ | refine blk_drew ?_ | refine blk_alloc ?_ _)); exact BK165.out) hb); have n3_ := Aside0.mk (below_step (by repeat (first | (with_reducible first | exact HB.out | apply below_alloc | apply pw_below_drewN | apply below_drew1 | refine below_set ?_ GE165.out) | exact HB.out)) hb); clear HO164; clear BK165; clear HB; have HO164 := n0_; have HO172 := n1_; have BK165 := n2_; have HB := n3_; clear n0_ n1_ n2_ n3_; (try clear hb); (try clear hb2); (try clear hk); (try clear hi); (try clear ho0)) | ((with_reducible refine gate_dst (N := 6) rfl ?_); (try (refine gate_guard (by rfl) ?_; dsimp only)); refine box_event ?hg (N := 6) ?hd (cs := #[.slice none 0 0]) (t := 24) ?hr ?_; (case hd => rfl); (case hg => rfl); (case hr => first | (go_simp; done) | (go_simp; rfl)); intro gb175 hg w21 hbox hb; have n0_ := Aside0.mk (Kd.R_below (by (with_reducible repeat (first | apply Kd.R_alloc | apply Kd.R_drewN | apply Kd.R_drew)); exact HO164.out) hb); have n1_ := Aside0.mk (Kd.R_below (by (with_reducible repeat (first | apply Kd.R_alloc | apply Kd.R_drewN | apply Kd.R_drew)); exact HO172.out) hb); have n2_ := Aside0.mk (blk_below (g := gb165) (o := .cells #[.slice Ao14 t162.length co14] 24 (0, 0)) (by (with_reducible repeat (first | refine blk_drewN ?_ _ | refine blk_drew ?_ | refine blk_alloc ?_ _)); exact BK165.out) hb); have n3_ := Aside0.mk (below_step (by repeat (first | (with_reducible first | exact HB.out | apply below_alloc | apply pw_below_drewN | apply below_drew1 | refine below_set ?_ GE165.out) | exact HB.out)) hb); have n4_ := Aside0.mk (hbox); have n5_ := Aside0.mk ((by rw [hg]; exact (below_size (by repeat (first | (with_reducible first | exact HB.out | apply below_alloc | apply pw_below_drewN | apply below_drew1 | refine below_set ?_ GE165.out) | exact HB.out))) : w.heap.size ≤ gb175)); have n6_ := Aside0.mk ((by rw [hg]; exact (below_size (by repeat (first | (with_reducible first | exact HB.out | apply below_alloc | apply pw_below_drewN | apply below_drew1 | refine below_set ?_ GE165.out) | exact HB.out))) : w.heap.size ≤ gb175)); have n7_ := Aside0.mk ((by rw [hg]; exact Nat.ne_of_lt (blk_lt (g := gb165) (o := .cells #[.slice Ao14 t162.length co14] 24 (0, 0)) (by (with_reducible repeat (first | refine blk_drewN ?_ _ | refine blk_drew ?_ | refine blk_alloc ?_ _)); exact BK165.out)) : gb165 ≠ gb175)); have n8_ := Aside0.mk ((by rw [hg]; exact Nat.ne_of_gt (blk_lt (g := gb165) (o := .cells #[.slice Ao14 t162.length co14] 24 (0, 0)) (by (with_reducible repeat (first | refine blk_drewN ?_ _ | refine blk_drew ?_ | refine blk_alloc ?_ _)); exact BK165.out)) : gb175 ≠ gb165)); clear HO164; clear HO172; clear BK165; clear HB; have HO164 := n0_; have HO172 := n1_; have BK165 := n2_; have HB := n3_; have BK175 := n4_; have GW175 := n5_; have GE175 := n6_; have NB165_175 := n7_; have NB175_165 := n8_; clear n0_ n1_ n2_ n3_ n4_ n5_ n6_ n7_ n8_; clear hb hbox hg; obtain ⟨Ao22, co22, eo22⟩ := Kd.R_slice HO172.out; subst eo22; have hnb23 := NB175_165.out; have hnc23 := NB165_175.out; have hcz24_0 : w21.cell? ⟨gb175, 0, none⟩ = some (.slice none 0 0) := (blk_cell BK175.out 0).trans rfl; have hfz24_0 := blk_frozen BK175.out 0; have hcz25_0 : w21.cell? ⟨gb165, 0, none⟩ = some (.slice Ao14 t162.length co14) := (blk_cell BK165.out 0).trans rfl; have hfz25_0 := blk_frozen BK165.out 0) | ((with_reducible refine gate_callee (f := 21) rfl ?_); refine goesL_ (some 45) rfl rfl Tryd.func21 (by kernel_rfl) rfl #[.agg #[.slice Ao14 t162.length co14], .agg #[.int .i64 5, .int .i64 50, .int .i64 0]] rfl (by (try simp only [List.map_toArray, List.map_cons, List.map_nil]); first | done | rfl | (simp only [List.length_drop, List.length_take]; rfl)) ?_; (with_reducible refine (pack_Apply.calls _ _ t162 5 50 0 t176 t179 t180 _ ?side1 ?side2 A5.out).mono ?_); (case side1 => refine (Kd.R_reads' (e := 48) (base := w.heap.size) (ok := fun k_ => (True ∧ some k_ ≠ (.slice Ao22 t170.length co22 : Value).ownBlock)) (n := t162.length) (c := co14) ?_).2.2; exact (by (with_reducible repeat (first | apply Kd.R_alloc | apply Kd.R_drewN | apply Kd.R_drew)); exact (Kd.R_mono (Kd.R_far (p := ⟨gb175, 0, none⟩) (Kd.R_types HO164.out BK175.out (by decide)) (fun _ hk => hk.2) (.slice Ao22 t170.length co22)) (fun _ h_ => h_.1)))); (case side2 => exact (Kd.R_reads' HO164.out).2.1); rintro e w26 ⟨v177, rfl, ho0, hb⟩; refine ⟨_, rfl, ?_⟩; have n0_ := Aside0.mk (Kd.R_elder' (by (with_reducible repeat (first | apply Kd.R_alloc | apply Kd.R_drewN | apply Kd.R_drew)); exact (Kd.R_mono (Kd.R_far (p := ⟨gb175, 0, none⟩) (Kd.R_types HO164.out BK175.out (by decide)) (fun _ hk => hk.2) (.slice Ao22 t170.length co22)) (fun _ h_ => h_.1))) (Kd.R_base ho0) hb); have n1_ := Aside0.mk (Kd.R_elder' (by (with_reducible repeat (first | apply Kd.R_alloc | apply Kd.R_drewN | apply Kd.R_drew)); exact (Kd.R_mono (Kd.R_far (p := ⟨gb175, 0, none⟩) (Kd.R_types HO172.out BK175.out (by decide)) (fun _ hk => hk.2) (.slice Ao22 t170.length co22)) (fun _ h_ => h_.1))) (Kd.R_base ho0) hb); have n2_ := Aside0.mk (Kd.R_lower (Kd.R_new' (Kd.R_new' ho0 (Kd.R_lt (by (with_reducible repeat (first | apply Kd.R_alloc | apply Kd.R_drewN | apply Kd.R_drew)); exact (Kd.R_mono (Kd.R_far (p := ⟨gb175, 0, none⟩) (Kd.R_types HO164.out BK175.out (by decide)) (fun _ hk => hk.2) (.slice Ao22 t170.length co22)) (fun _ h_ => h_.1))))) (Kd.R_lt (by (with_reducible repeat (first | apply Kd.R_alloc | apply Kd.R_drewN | apply Kd.R_drew)); exact (Kd.R_mono (Kd.R_far (p := ⟨gb175, 0, none⟩) (Kd.R_types HO172.out BK175.out (by decide)) (fun _ hk => hk.2) (.slice Ao22 t170.length co22)) (fun _ h_ => h_.1))))) (below_size (by repeat (first | (with_reducible first | exact HB.out | apply below_alloc | apply pw_below_drewN | apply below_drew1 | refine below_set ?_ GE165.out | refine below_set ?_ GE175.out) | exact HB.out)))); have n3_ := Aside0.mk (blk_below (g := gb165) (o := .cells #[.slice Ao14 t162.length co14] 24 (0, 0)) (by (with_reducible repeat (first | refine blk_drewN ?_ _ | refine blk_drew ?_ | refine blk_alloc ?_ _)); refine blk_far ?_ NB165_175.out _; (with_reducible repeat (first | refine blk_drewN ?_ _ | refine blk_drew ?_ | refine blk_alloc ?_ _)); exact BK165.out) hb); have n4_ := Aside0.mk (blk_below (g := gb175) (o := .cells #[.slice Ao22 t170.length co22] 24 (0, 0)) (by (with_reducible repeat (first | refine blk_drewN ?_ _ | refine blk_drew ?_ | refine blk_alloc ?_ _)); refine blk_put (cs := #[.slice none 0 0]) ?_ 0 _ rfl; (with_reducible repeat (first | refine blk_drewN ?_ _ | refine blk_drew ?_ | refine blk_alloc ?_ _)); exact BK175.out) hb); have n5_ := Aside0.mk (below_step (by repeat (first | (with_reducible first | exact HB.out | apply below_alloc | apply pw_below_drewN | apply below_drew1 | refine below_set ?_ GE165.out | refine below_set ?_ GE175.out) | exact HB.out)) hb); clear HO164; clear HO172; clear BK165; clear BK175; clear HB; have HO164 := n0_; have HO172 := n1_; have HO178 := n2_; have BK165 := n3_; have BK175 := n4_; have HB := n5_; clear n0_ n1_ n2_ n3_ n4_ n5_; (try clear hb); (try clear hb2); (try clear hk); (try clear hi); (try clear ho0)) | ((with_reducible refine gate_dst (N := 9) rfl ?_); (try (refine gate_guard (by rfl) ?_; dsimp only)); refine box_event ?hg (N := 9) ?hd (cs := #[.slice none 0 0]) (t := 24) ?hr ?_; (case hd => rfl); (case hg => rfl); (case hr => first | (go_simp; done) | (go_simp; rfl)); intro gb181 hg w27 hbox hb; have n0_ := Aside0.mk (Kd.R_below (by (with_reducible repeat (first | apply Kd.R_alloc | apply Kd.R_drewN | apply Kd.R_drew)); exact HO164.out) hb); have n1_ := Aside0.mk (Kd.R_below (by (with_reducible repeat (first | apply Kd.R_alloc | apply Kd.R_drewN | apply Kd.R_drew)); exact HO172.out) hb); have n2_ := Aside0.mk (Kd.R_below (by (with_reducible repeat (first | apply Kd.R_alloc | apply Kd.R_drewN | apply Kd.R_drew)); exact HO178.out) hb); have n3_ := Aside0.mk (blk_below (g := gb165) (o := .cells #[.slice Ao14 t162.length co14] 24 (0, 0)) (by (with_reducible repeat (first | refine blk_drewN ?_ _ | refine blk_drew ?_ | refine blk_alloc ?_ _)); exact BK165.out) hb); have n4_ := Aside0.mk (blk_below (g := gb175) (o := .cells #[.slice Ao22 t170.length co22] 24 (0, 0)) (by (with_reducible repeat (first | refine blk_drewN ?_ _ | refine blk_drew ?_ | refine blk_alloc ?_ _)); exact BK175.out) hb); have n5_ := Aside0.mk (below_step (by repeat (first | (with_reducible first | exact HB.out | apply below_alloc | apply pw_below_drewN | apply below_drew1 | refine below_set ?_ GE165.out | refine below_set ?_ GE175.out) | exact HB.out)) hb); have n6_ := Aside0.mk (hbox); have n7_ := Aside0.mk ((by rw [hg]; exact (below_size (by repeat (first | (with_reducible first | exact HB.out | apply below_alloc | apply pw_below_drewN | apply below_drew1 | refine below_set ?_ GE165.out | refine below_set ?_ GE175.out) | exact HB.out))) : w.heap.size ≤ gb181)); have n8_ := Aside0.mk ((by rw [hg]; exact (below_size (by repeat (first | (with_reducible first | exact HB.out | apply below_alloc | apply pw_below_drewN | apply below_drew1 | refine below_set ?_ GE165.out | refine below_set ?_ GE175.out) | exact HB.out))) : w.heap.size ≤ gb181)); have n9_ := Aside0.mk ((by rw [hg]; exact Nat.ne_of_lt (blk_lt (g := gb165) (o := .cells #[.slice Ao14 t162.length co14] 24 (0, 0)) (by (with_reducible repeat (first | refine blk_drewN ?_ _ | refine blk_drew ?_ | refine blk_alloc ?_ _)); exact BK165.out)) : gb165 ≠ gb181)); have n10_ := Aside0.mk ((by rw [hg]; exact Nat.ne_of_gt (blk_lt (g := gb165) (o := .cells #[.slice Ao14 t162.length co14] 24 (0, 0)) (by (with_reducible repeat (first | refine blk_drewN ?_ _ | refine blk_drew ?_ | refine blk_alloc ?_ _)); exact BK165.out)) : gb181 ≠ gb165)); have n11_ := Aside0.mk ((by rw [hg]; exact Nat.ne_of_lt (blk_lt (g := gb175) (o := .cells #[.slice Ao22 t170.length co22] 24 (0, 0)) (by (with_reducible repeat (first | refine blk_drewN ?_ _ | refine blk_drew ?_ | refine blk_alloc ?_ _)); exact BK175.out)) : gb175 ≠ gb181)); have n12_ := Aside0.mk ((by rw [hg]; exact Nat.ne_of_gt (blk_lt (g := gb175) (o := .cells #[.slice Ao22 t170.length co22] 24 (0, 0)) (by (with_reducible repeat (first | refine blk_drewN ?_ _ | refine blk_drew ?_ | refine blk_alloc ?_ _)); exact BK175.out)) : gb181 ≠ gb175)); clear HO164; clear HO172; clear HO178; clear BK165; clear BK175; clear HB; have HO164 := n0_; have HO172 := n1_; have HO178 := n2_; have BK165 := n3_; have BK175 := n4_; have HB := n5_; have BK181 := n6_; have GW181 := n7_; have GE181 := n8_; have NB165_181 := n9_; have NB181_165 := n10_; have NB175_181 := n11_; have NB181_175 := n12_; clear n0_ n1_ n2_ n3_ n4_ n5_ n6_ n7_ n8_ n9_ n10_ n11_ n12_; clear hb hbox hg; obtain ⟨Ao28, co28, eo28⟩ := Kd.R_slice HO178.out; subst eo28; have hnb29 := NB181_165.out; have hnc29 := NB165_181.out; have hnb30 := NB181_175.out; have hnc30 := NB175_181.out; have hcz31_0 : w27.cell? ⟨gb181, 0, none⟩ = some (.slice none 0 0) := (blk_cell BK181.out 0).trans rfl; have hfz31_0 := blk_frozen BK181.out 0; have hcz32_0 : w27.cell? ⟨gb165, 0, none⟩ = some (.slice Ao14 t162.length co14) := (blk_cell BK165.out 0).trans rfl; have hfz32_0 := blk_frozen BK165.out 0) | ((with_reducible refine gate_callee (f := 33) rfl ?_); refine goesL_ (some 51) rfl rfl Tryd.func33 (by kernel_rfl) rfl #[.agg #[.slice Ao14 t162.length co14]] rfl (by (try simp only [List.map_toArray, List.map_cons, List.map_nil]); first | done | rfl | (simp only [List.length_drop, List.length_take]; rfl)) ?_; (with_reducible refine (pack_Weakest.calls _ _ t162 t182 t183 t184 _ ?side1 ?side2 A6.out).mono ?_); (case side1 => refine (Kd.R_reads' (e := 48) (base := w.heap.size) (ok := fun k_ => ((True ∧ some k_ ≠ (.slice Ao22 t170.length co22 : Value).ownBlock) ∧ some k_ ≠ (.slice Ao28 t176.length co28 : Value).ownBlock)) (n := t162.length) (c := co14) ?_).2.2; exact (by (with_reducible repeat (first | apply Kd.R_alloc | apply Kd.R_drewN | apply Kd.R_drew)); exact (Kd.R_mono (Kd.R_far (p := ⟨gb181, 0, none⟩) (Kd.R_types HO164.out BK181.out (by decide)) (fun _ hk => hk.2) (.slice Ao28 t176.length co28)) (fun _ h_ => h_.1)))); (case side2 => exact (Kd.R_reads' HO164.out).2.1); rintro e w33 ⟨rfl, hb⟩; refine ⟨_, rfl, ?_⟩; have n0_ := Aside0.mk (Kd.R_below (by (with_reducible repeat (first | apply Kd.R_alloc | apply Kd.R_drewN | apply Kd.R_drew)); exact (Kd.R_mono (Kd.R_far (p := ⟨gb181, 0, none⟩) (Kd.R_types HO164.out BK181.out (by decide)) (fun _ hk => hk.2) (.slice Ao28 t176.length co28)) (fun _ h_ => h_.1))) hb); have n1_ := Aside0.mk (Kd.R_below (by (with_reducible repeat (first | apply Kd.R_alloc | apply Kd.R_drewN | apply Kd.R_drew)); exact (Kd.R_mono (Kd.R_far (p := ⟨gb181, 0, none⟩) (Kd.R_types HO172.out BK181.out (by decide)) (fun _ hk => hk.2) (.slice Ao28 t176.length co28)) (fun _ h_ => h_.1))) hb); have n2_ := Aside0.mk (Kd.R_below (by (with_reducible repeat (first | apply Kd.R_alloc | apply Kd.R_drewN | apply Kd.R_drew)); exact (Kd.R_mono (Kd.R_far (p := ⟨gb181, 0, none⟩) (Kd.R_types HO178.out BK181.out (by decide)) (fun _ hk => hk.2) (.slice Ao28 t176.length co28)) (fun _ h_ => h_.1))) hb); have n3_ := Aside0.mk (blk_below (g := gb165) (o := .cells #[.slice Ao14 t162.length co14] 24 (0, 0)) (by (with_reducible repeat (first | refine blk_drewN ?_ _ | refine blk_drew ?_ | refine blk_alloc ?_ _)); refine blk_far ?_ NB165_181.out _; (with_reducible repeat (first | refine blk_drewN ?_ _ | refine blk_drew ?_ | refine blk_alloc ?_ _)); exact BK165.out) hb); have n4_ := Aside0.mk (blk_below (g := gb175) (o := .cells #[.slice Ao22 t170.length co22] 24 (0, 0)) (by (with_reducible repeat (first | refine blk_drewN ?_ _ | refine blk_drew ?_ | refine blk_alloc ?_ _)); refine blk_far ?_ NB175_181.out _; (with_reducible repeat (first | refine blk_drewN ?_ _ | refine blk_drew ?_ | refine blk_alloc ?_ _)); exact BK175.out) hb); have n5_ := Aside0.mk (blk_below (g := gb181) (o := .cells #[.slice Ao28 t176.length co28] 24 (0, 0)) (by (with_reducible repeat (first | refine blk_drewN ?_ _ | refine blk_drew ?_ | refine blk_alloc ?_ _)); refine blk_put (cs := #[.slice none 0 0]) ?_ 0 _ rfl; (with_reducible repeat (first | refine blk_drewN ?_ _ | refine blk_drew ?_ | refine blk_alloc ?_ _)); exact BK181.out) hb); have n6_ := Aside0.mk (below_step (by repeat (first | (with_reducible first | exact HB.out | apply below_alloc | apply pw_below_drewN | apply below_drew1 | refine below_set ?_ GE165.out | refine below_set ?_ GE175.out | refine below_set ?_ GE181.out) | exact HB.out)) hb); clear HO164; clear HO172; clear HO178; clear BK165; clear BK175; clear BK181; clear HB; have HO164 := n0_; have HO172 := n1_; have HO178 := n2_; have BK165 := n3_; have BK175 := n4_; have BK181 := n5_; have HB := n6_; clear n0_ n1_ n2_ n3_ n4_ n5_ n6_; (try clear hb); (try clear hb2); (try clear hk); (try clear hi)) | ((with_reducible refine gate_dst (N := 58) rfl ?_); (try (refine gate_guard (by rfl) ?_; dsimp only)); refine Kd.R_lit k48 _ 48 ?hg (N := 58) ?hd (xs := ([(⟨300, 0, 0⟩ : S48), (⟨20, 0, 0⟩ : S48)] : List (S48))) (inner := [.int .i64 300, .int .i64 0, .int .i64 0, .int .i64 20, .int .i64 0, .int .i64 0]) (ok := fun _ => True) (okp := fun _ => True) ?hr ?hp (fun _ hk => hk) trivial (Below.refl _ _) (Nat.le_refl _) (by simp) ?_; (case hd => rfl); (case hg => rfl); (case hr => first | (go_simp; done) | (go_simp; rfl)); (case hp => exact (Reps.c3 (show Kd.M k48 _ _ _ (⟨300, 0, 0⟩ : S48) [.int .i64 300, .int .i64 0, .int .i64 0] from (k48_mkM _ _ _ (⟨300, 0, 0⟩ : S48) )) (Reps.c3 (show Kd.M k48 _ _ _ (⟨20, 0, 0⟩ : S48) [.int .i64 20, .int .i64 0, .int .i64 0] from (k48_mkM _ _ _ (⟨20, 0, 0⟩ : S48) )) (Reps.none _ _)))); intro v186 w34 ho35 hb hg_ hnew_; clear hg_ hnew_; (first | rw [← Ny185.out] at ho35 | (simp only [Int.reduceToNat] at ho35; rw [← Ny185.out] at ho35)); have n0_ := Aside0.mk (Kd.R_elder' (by (with_reducible repeat (first | apply Kd.R_alloc | apply Kd.R_drewN | apply Kd.R_drew)); exact HO164.out) (Kd.R_base ho35) hb); have n1_ := Aside0.mk (Kd.R_elder' (by (with_reducible repeat (first | apply Kd.R_alloc | apply Kd.R_drewN | apply Kd.R_drew)); exact HO172.out) (Kd.R_base ho35) hb); have n2_ := Aside0.mk (Kd.R_elder' (by (with_reducible repeat (first | apply Kd.R_alloc | apply Kd.R_drewN | apply Kd.R_drew)); exact HO178.out) (Kd.R_base ho35) hb); have n3_ := Aside0.mk (Kd.R_lower (Kd.R_new' (Kd.R_new' (Kd.R_new' ho35 (Kd.R_lt (by (with_reducible repeat (first | apply Kd.R_alloc | apply Kd.R_drewN | apply Kd.R_drew)); exact HO164.out))) (Kd.R_lt (by (with_reducible repeat (first | apply Kd.R_alloc | apply Kd.R_drewN | apply Kd.R_drew)); exact HO172.out))) (Kd.R_lt (by (with_reducible repeat (first | apply Kd.R_alloc | apply Kd.R_drewN | apply Kd.R_drew)); exact HO178.out))) (below_size (by repeat (first | (with_reducible first | exact HB.out | apply below_alloc | apply pw_below_drewN | apply below_drew1 | refine below_set ?_ GE165.out | refine below_set ?_ GE175.out | refine below_set ?_ GE181.out) | exact HB.out)))); have n4_ := Aside0.mk (blk_below (g := gb165) (o := .cells #[.slice Ao14 t162.length co14] 24 (0, 0)) (by (with_reducible repeat (first | refine blk_drewN ?_ _ | refine blk_drew ?_ | refine blk_alloc ?_ _)); exact BK165.out) hb); have n5_ := Aside0.mk (blk_below (g := gb175) (o := .cells #[.slice Ao22 t170.length co22] 24 (0, 0)) (by (with_reducible repeat (first | refine blk_drewN ?_ _ | refine blk_drew ?_ | refine blk_alloc ?_ _)); exact BK175.out) hb); have n6_ := Aside0.mk (blk_below (g := gb181) (o := .cells #[.slice Ao28 t176.length co28] 24 (0, 0)) (by (with_reducible repeat (first | refine blk_drewN ?_ _ | refine blk_drew ?_ | refine blk_alloc ?_ _)); exact BK181.out) hb); have n7_ := Aside0.mk (below_step (by repeat (first | (with_reducible first | exact HB.out | apply below_alloc | apply pw_below_drewN | apply below_drew1 | refine below_set ?_ GE165.out | refine below_set ?_ GE175.out | refine below_set ?_ GE181.out) | exact HB.out)) hb); clear HO164; clear HO172; clear HO178; clear BK165; clear BK175; clear BK181; clear HB; have HO164 := n0_; have HO172 := n1_; have HO178 := n2_; have HO187 := n3_; have BK165 := n4_; have BK175 := n5_; have BK181 := n6_; have HB := n7_; clear n0_ n1_ n2_ n3_ n4_ n5_ n6_ n7_; clear hb ho35; obtain ⟨Ao36, co36, eo36⟩ := Kd.R_slice HO187.out; subst eo36) | ((with_reducible refine gate_callee (f := 37) rfl ?_); refine goesL_ (some 60) rfl rfl Tryd.func37 (by kernel_rfl) rfl #[.agg #[.slice Ao36 y185.length co36]] rfl (by (try simp only [List.map_toArray, List.map_cons, List.map_nil]); first | done | rfl | (simp only [List.length_drop, List.length_take]; rfl)) ?_; (with_reducible refine (pack_Steepest.calls k _ _ y185 t188 t189 _ ?side1 ?side2 A7.out).mono ?_); (case side1 => repeat (first | exact (Kd.R_reads' HO187.out).2.2 | (with_reducible refine Kd.C_alloc ?_ _) | (with_reducible refine Kd.C_drewN ?_ _) | (with_reducible refine Kd.C_drew ?_))); (case side2 => exact (Kd.R_reads' HO187.out).2.1); rintro e w37 ⟨rfl, hb⟩; refine ⟨_, rfl, ?_⟩; have n0_ := Aside0.mk (Kd.R_below (by (with_reducible repeat (first | apply Kd.R_alloc | apply Kd.R_drewN | apply Kd.R_drew)); exact HO164.out) hb); have n1_ := Aside0.mk (Kd.R_below (by (with_reducible repeat (first | apply Kd.R_alloc | apply Kd.R_drewN | apply Kd.R_drew)); exact HO172.out) hb); have n2_ := Aside0.mk (Kd.R_below (by (with_reducible repeat (first | apply Kd.R_alloc | apply Kd.R_drewN | apply Kd.R_drew)); exact HO178.out) hb); have n3_ := Aside0.mk (Kd.R_below (by (with_reducible repeat (first | apply Kd.R_alloc | apply Kd.R_drewN | apply Kd.R_drew)); exact HO187.out) hb); have n4_ := Aside0.mk (blk_below (g := gb165) (o := .cells #[.slice Ao14 t162.length co14] 24 (0, 0)) (by (with_reducible repeat (first | refine blk_drewN ?_ _ | refine blk_drew ?_ | refine blk_alloc ?_ _)); exact BK165.out) hb); have n5_ := Aside0.mk (blk_below (g := gb175) (o := .cells #[.slice Ao22 t170.length co22] 24 (0, 0)) (by (with_reducible repeat (first | refine blk_drewN ?_ _ | refine blk_drew ?_ | refine blk_alloc ?_ _)); exact BK175.out) hb); have n6_ := Aside0.mk (blk_below (g := gb181) (o := .cells #[.slice Ao28 t176.length co28] 24 (0, 0)) (by (with_reducible repeat (first | refine blk_drewN ?_ _ | refine blk_drew ?_ | refine blk_alloc ?_ _)); exact BK181.out) hb); have n7_ := Aside0.mk (below_step (by repeat (first | (with_reducible first | exact HB.out | apply below_alloc | apply pw_below_drewN | apply below_drew1 | refine below_set ?_ GE165.out | refine below_set ?_ GE175.out | refine below_set ?_ GE181.out) | exact HB.out)) hb); clear HO164; clear HO172; clear HO178; clear HO187; clear BK165; clear BK175; clear BK181; clear HB; have HO164 := n0_; have HO172 := n1_; have HO178 := n2_; have HO187 := n3_; have BK165 := n4_; have BK175 := n5_; have BK181 := n6_; have HB := n7_; clear n0_ n1_ n2_ n3_ n4_ n5_ n6_ n7_; (try clear hb); (try clear hb2); (try clear hk); (try clear hi); have hcz38_0 : w37.cell? ⟨gb165, 0, none⟩ = some (.slice Ao14 t162.length co14) := (blk_cell BK165.out 0).trans rfl; have hfz38_0 := blk_frozen BK165.out 0) | ((with_reducible refine gate_callee (f := 29) rfl ?_); refine goesL_ (some 65) rfl rfl Tryd.func29 (by kernel_rfl) rfl #[.agg #[.slice Ao14 t162.length co14], .int .i64 1] rfl (by (try simp only [List.map_toArray, List.map_cons, List.map_nil]); first | done | rfl | (simp only [List.length_drop, List.length_take]; rfl)) ?_; (with_reducible refine (pack_Joined.calls _ _ t162 1 t190 t193 _ ?side1 ?side2 A8.out).mono ?_); (case side1 => repeat (first | exact (Kd.R_reads' HO164.out).2.2 | (with_reducible refine Kd.C_alloc ?_ _) | (with_reducible refine Kd.C_drewN ?_ _) | (with_reducible refine Kd.C_drew ?_))); (case side2 => exact (Kd.R_reads' HO164.out).2.1); rintro e w39 ⟨v191, rfl, ho0, hb⟩; refine ⟨_, rfl, ?_⟩; have n0_ := Aside0.mk (Kd.R_elder' (by (with_reducible repeat (first | apply Kd.R_alloc | apply Kd.R_drewN | apply Kd.R_drew)); exact HO164.out) (Kd.R_base ho0) hb); have n1_ := Aside0.mk (Kd.R_elder' (by (with_reducible repeat (first | apply Kd.R_alloc | apply Kd.R_drewN | apply Kd.R_drew)); exact HO172.out) (Kd.R_base ho0) hb); have n2_ := Aside0.mk (Kd.R_elder' (by (with_reducible repeat (first | apply Kd.R_alloc | apply Kd.R_drewN | apply Kd.R_drew)); exact HO178.out) (Kd.R_base ho0) hb); have n3_ := Aside0.mk (Kd.R_elder' (by (with_reducible repeat (first | apply Kd.R_alloc | apply Kd.R_drewN | apply Kd.R_drew)); exact HO187.out) (Kd.R_base ho0) hb); have n4_ := Aside0.mk (Kd.R_lower (Kd.R_new' (Kd.R_new' (Kd.R_new' (Kd.R_new' ho0 (Kd.R_lt (by (with_reducible repeat (first | apply Kd.R_alloc | apply Kd.R_drewN | apply Kd.R_drew)); exact HO164.out))) (Kd.R_lt (by (with_reducible repeat (first | apply Kd.R_alloc | apply Kd.R_drewN | apply Kd.R_drew)); exact HO172.out))) (Kd.R_lt (by (with_reducible repeat (first | apply Kd.R_alloc | apply Kd.R_drewN | apply Kd.R_drew)); exact HO178.out))) (Kd.R_lt (by (with_reducible repeat (first | apply Kd.R_alloc | apply Kd.R_drewN | apply Kd.R_drew)); exact HO187.out))) (below_size (by repeat (first | (with_reducible first | exact HB.out | apply below_alloc | apply pw_below_drewN | apply below_drew1 | refine below_set ?_ GE165.out | refine below_set ?_ GE175.out | refine below_set ?_ GE181.out) | exact HB.out)))); have n5_ := Aside0.mk (blk_below (g := gb165) (o := .cells #[.slice Ao14 t162.length co14] 24 (0, 0)) (by (with_reducible repeat (first | refine blk_drewN ?_ _ | refine blk_drew ?_ | refine blk_alloc ?_ _)); exact BK165.out) hb); have n6_ := Aside0.mk (blk_below (g := gb175) (o := .cells #[.slice Ao22 t170.length co22] 24 (0, 0)) (by (with_reducible repeat (first | refine blk_drewN ?_ _ | refine blk_drew ?_ | refine blk_alloc ?_ _)); exact BK175.out) hb); have n7_ := Aside0.mk (blk_below (g := gb181) (o := .cells #[.slice Ao28 t176.length co28] 24 (0, 0)) (by (with_reducible repeat (first | refine blk_drewN ?_ _ | refine blk_drew ?_ | refine blk_alloc ?_ _)); exact BK181.out) hb); have n8_ := Aside0.mk (below_step (by repeat (first | (with_reducible first | exact HB.out | apply below_alloc | apply pw_below_drewN | apply below_drew1 | refine below_set ?_ GE165.out | refine below_set ?_ GE175.out | refine below_set ?_ GE181.out) | exact HB.out)) hb); clear HO164; clear HO172; clear HO178; clear HO187; clear BK165; clear BK175; clear BK181; clear HB; have HO164 := n0_; have HO172 := n1_; have HO178 := n2_; have HO187 := n3_; have HO192 := n4_; have BK165 := n5_; have BK175 := n6_; have BK181 := n7_; have HB := n8_; clear n0_ n1_ n2_ n3_ n4_ n5_ n6_ n7_ n8_; (try clear hb); (try clear hb2); (try clear hk); (try clear hi); (try clear ho0)) | ((with_reducible refine gate_dst (N := 17) rfl ?_); (try (refine gate_guard (by rfl) ?_; dsimp only)); refine box_event ?hg (N := 17) ?hd (cs := #[.slice none 0 0]) (t := 24) ?hr ?_; (case hd => rfl); (case hg => rfl); (case hr => first | (go_simp; done) | (go_simp; rfl)); intro gb194 hg w40 hbox hb; have n0_ := Aside0.mk (Kd.R_below (by (with_reducible repeat (first | apply Kd.R_alloc | apply Kd.R_drewN | apply Kd.R_drew)); exact HO164.out) hb); have n1_ := Aside0.mk (Kd.R_below (by (with_reducible repeat (first | apply Kd.R_alloc | apply Kd.R_drewN | apply Kd.R_drew)); exact HO172.out) hb); have n2_ := Aside0.mk (Kd.R_below (by (with_reducible repeat (first | apply Kd.R_alloc | apply Kd.R_drewN | apply Kd.R_drew)); exact HO178.out) hb); have n3_ := Aside0.mk (Kd.R_below (by (with_reducible repeat (first | apply Kd.R_alloc | apply Kd.R_drewN | apply Kd.R_drew)); exact HO187.out) hb); have n4_ := Aside0.mk (Kd.R_below (by (with_reducible repeat (first | apply Kd.R_alloc | apply Kd.R_drewN | apply Kd.R_drew)); exact HO192.out) hb); have n5_ := Aside0.mk (blk_below (g := gb165) (o := .cells #[.slice Ao14 t162.length co14] 24 (0, 0)) (by (with_reducible repeat (first | refine blk_drewN ?_ _ | refine blk_drew ?_ | refine blk_alloc ?_ _)); exact BK165.out) hb); have n6_ := Aside0.mk (blk_below (g := gb175) (o := .cells #[.slice Ao22 t170.length co22] 24 (0, 0)) (by (with_reducible repeat (first | refine blk_drewN ?_ _ | refine blk_drew ?_ | refine blk_alloc ?_ _)); exact BK175.out) hb); have n7_ := Aside0.mk (blk_below (g := gb181) (o := .cells #[.slice Ao28 t176.length co28] 24 (0, 0)) (by (with_reducible repeat (first | refine blk_drewN ?_ _ | refine blk_drew ?_ | refine blk_alloc ?_ _)); exact BK181.out) hb); have n8_ := Aside0.mk (below_step (by repeat (first | (with_reducible first | exact HB.out | apply below_alloc | apply pw_below_drewN | apply below_drew1 | refine below_set ?_ GE165.out | refine below_set ?_ GE175.out | refine below_set ?_ GE181.out) | exact HB.out)) hb); have n9_ := Aside0.mk (hbox); have n10_ := Aside0.mk ((by rw [hg]; exact (below_size (by repeat (first | (with_reducible first | exact HB.out | apply below_alloc | apply pw_below_drewN | apply below_drew1 | refine below_set ?_ GE165.out | refine below_set ?_ GE175.out | refine below_set ?_ GE181.out) | exact HB.out))) : w.heap.size ≤ gb194)); have n11_ := Aside0.mk ((by rw [hg]; exact (below_size (by repeat (first | (with_reducible first | exact HB.out | apply below_alloc | apply pw_below_drewN | apply below_drew1 | refine below_set ?_ GE165.out | refine below_set ?_ GE175.out | refine below_set ?_ GE181.out) | exact HB.out))) : w.heap.size ≤ gb194)); have n12_ := Aside0.mk ((by rw [hg]; exact Nat.ne_of_lt (blk_lt (g := gb165) (o := .cells #[.slice Ao14 t162.length co14] 24 (0, 0)) (by (with_reducible repeat (first | refine blk_drewN ?_ _ | refine blk_drew ?_ | refine blk_alloc ?_ _)); exact BK165.out)) : gb165 ≠ gb194)); have n13_ := Aside0.mk ((by rw [hg]; exact Nat.ne_of_gt (blk_lt (g := gb165) (o := .cells #[.slice Ao14 t162.length co14] 24 (0, 0)) (by (with_reducible repeat (first | refine blk_drewN ?_ _ | refine blk_drew ?_ | refine blk_alloc ?_ _)); exact BK165.out)) : gb194 ≠ gb165)); have n14_ := Aside0.mk ((by rw [hg]; exact Nat.ne_of_lt (blk_lt (g := gb175) (o := .cells #[.slice Ao22 t170.length co22] 24 (0, 0)) (by (with_reducible repeat (first | refine blk_drewN ?_ _ | refine blk_drew ?_ | refine blk_alloc ?_ _)); exact BK175.out)) : gb175 ≠ gb194)); have n15_ := Aside0.mk ((by rw [hg]; exact Nat.ne_of_gt (blk_lt (g := gb175) (o := .cells #[.slice Ao22 t170.length co22] 24 (0, 0)) (by (with_reducible repeat (first | refine blk_drewN ?_ _ | refine blk_drew ?_ | refine blk_alloc ?_ _)); exact BK175.out)) : gb194 ≠ gb175)); have n16_ := Aside0.mk ((by rw [hg]; exact Nat.ne_of_lt (blk_lt (g := gb181) (o := .cells #[.slice Ao28 t176.length co28] 24 (0, 0)) (by (with_reducible repeat (first | refine blk_drewN ?_ _ | refine blk_drew ?_ | refine blk_alloc ?_ _)); exact BK181.out)) : gb181 ≠ gb194)); have n17_ := Aside0.mk ((by rw [hg]; exact Nat.ne_of_gt (blk_lt (g := gb181) (o := .cells #[.slice Ao28 t176.length co28] 24 (0, 0)) (by (with_reducible repeat (first | refine blk_drewN ?_ _ | refine blk_drew ?_ | refine blk_alloc ?_ _)); exact BK181.out)) : gb194 ≠ gb181)); clear HO164; clear HO172; clear HO178; clear HO187; clear HO192; clear BK165; clear BK175; clear BK181; clear HB; have HO164 := n0_; have HO172 := n1_; have HO178 := n2_; have HO187 := n3_; have HO192 := n4_; have BK165 := n5_; have BK175 := n6_; have BK181 := n7_; have HB := n8_; have BK194 := n9_; have GW194 := n10_; have GE194 := n11_; have NB165_194 := n12_; have NB194_165 := n13_; have NB175_194 := n14_; have NB194_175 := n15_; have NB181_194 := n16_; have NB194_181 := n17_; clear n0_ n1_ n2_ n3_ n4_ n5_ n6_ n7_ n8_ n9_ n10_ n11_ n12_ n13_ n14_ n15_ n16_ n17_; clear hb hbox hg; obtain ⟨Ao41, co41, eo41⟩ := Kd.R_slice HO192.out; subst eo41; have hnb42 := NB194_165.out; have hnc42 := NB165_194.out; have hnb43 := NB194_175.out; have hnc43 := NB175_194.out; have hnb44 := NB194_181.out; have hnc44 := NB181_194.out; have hcz45_0 : w40.cell? ⟨gb194, 0, none⟩ = some (.slice none 0 0) := (blk_cell BK194.out 0).trans rfl; have hfz45_0 := blk_frozen BK194.out 0; have hcz46_0 : w40.cell? ⟨gb165, 0, none⟩ = some (.slice Ao14 t162.length co14) := (blk_cell BK165.out 0).trans rfl; have hfz46_0 := blk_frozen BK165.out 0) | ((with_reducible refine gate_callee (f := 58) rfl ?_); refine goesL_ (some 70) rfl rfl Tryd.func58 (by kernel_rfl) rfl #[.agg #[.slice Ao14 t162.length co14]] rfl (by (try simp only [List.map_toArray, List.map_cons, List.map_nil]); first | done | rfl | (simp only [List.length_drop, List.length_take]; rfl)) ?_; (with_reducible refine (pack_Print.calls k _ _ t162 t195 t196 _ ?side1 ?side2 ?hgl_ A9.out).mono ?_); (case hgl_ => exact HGl.out.below (by repeat (first | (with_reducible first | exact HB.out | apply below_alloc | apply pw_below_drewN | apply below_drew1 | refine below_set ?_ GE165.out | refine below_set ?_ GE175.out | refine below_set ?_ GE181.out | refine below_set ?_ GE194.out) | exact HB.out)) (Nat.le_refl _)); (case side1 => refine (Kd.R_reads' (e := 48) (base := w.heap.size) (ok := fun k_ => ((((True ∧ some k_ ≠ (.slice Ao22 t170.length co22 : Value).ownBlock) ∧ some k_ ≠ (.slice Ao28 t176.length co28 : Value).ownBlock) ∧ some k_ ≠ (.slice Ao36 y185.length co36 : Value).ownBlock) ∧ some k_ ≠ (.slice Ao41 t190.length co41 : Value).ownBlock)) (n := t162.length) (c := co14) ?_).2.2; exact (by (with_reducible repeat (first | apply Kd.R_alloc | apply Kd.R_drewN | apply Kd.R_drew)); exact (Kd.R_mono (Kd.R_far (p := ⟨gb194, 0, none⟩) (Kd.R_types HO164.out BK194.out (by decide)) (fun _ hk => hk.2) (.slice Ao41 t190.length co41)) (fun _ h_ => h_.1)))); (case side2 => exact (Kd.R_reads' HO164.out).2.1); rintro e w47 ⟨rfl, hb⟩; refine ⟨_, rfl, ?_⟩; have n0_ := Aside0.mk (Kd.R_below (by (with_reducible repeat (first | apply Kd.R_alloc | apply Kd.R_drewN | apply Kd.R_drew)); exact (Kd.R_mono (Kd.R_far (p := ⟨gb194, 0, none⟩) (Kd.R_types HO164.out BK194.out (by decide)) (fun _ hk => hk.2) (.slice Ao41 t190.length co41)) (fun _ h_ => h_.1))) hb); have n1_ := Aside0.mk (Kd.R_below (by (with_reducible repeat (first | apply Kd.R_alloc | apply Kd.R_drewN | apply Kd.R_drew)); exact (Kd.R_mono (Kd.R_far (p := ⟨gb194, 0, none⟩) (Kd.R_types HO172.out BK194.out (by decide)) (fun _ hk => hk.2) (.slice Ao41 t190.length co41)) (fun _ h_ => h_.1))) hb); have n2_ := Aside0.mk (Kd.R_below (by (with_reducible repeat (first | apply Kd.R_alloc | apply Kd.R_drewN | apply Kd.R_drew)); exact (Kd.R_mono (Kd.R_far (p := ⟨gb194, 0, none⟩) (Kd.R_types HO178.out BK194.out (by decide)) (fun _ hk => hk.2) (.slice Ao41 t190.length co41)) (fun _ h_ => h_.1))) hb); have n3_ := Aside0.mk (Kd.R_below (by (with_reducible repeat (first | apply Kd.R_alloc | apply Kd.R_drewN | apply Kd.R_drew)); exact (Kd.R_mono (Kd.R_far (p := ⟨gb194, 0, none⟩) (Kd.R_types HO187.out BK194.out (by decide)) (fun _ hk => hk.2) (.slice Ao41 t190.length co41)) (fun _ h_ => h_.1))) hb); have n4_ := Aside0.mk (Kd.R_below (by (with_reducible repeat (first | apply Kd.R_alloc | apply Kd.R_drewN | apply Kd.R_drew)); exact (Kd.R_mono (Kd.R_far (p := ⟨gb194, 0, none⟩) (Kd.R_types HO192.out BK194.out (by decide)) (fun _ hk => hk.2) (.slice Ao41 t190.length co41)) (fun _ h_ => h_.1))) hb); have n5_ := Aside0.mk (blk_below (g := gb165) (o := .cells #[.slice Ao14 t162.length co14] 24 (0, 0)) (by (with_reducible repeat (first | refine blk_drewN ?_ _ | refine blk_drew ?_ | refine blk_alloc ?_ _)); refine blk_far ?_ NB165_194.out _; (with_reducible repeat (first | refine blk_drewN ?_ _ | refine blk_drew ?_ | refine blk_alloc ?_ _)); exact BK165.out) hb); have n6_ := Aside0.mk (blk_below (g := gb175) (o := .cells #[.slice Ao22 t170.length co22] 24 (0, 0)) (by (with_reducible repeat (first | refine blk_drewN ?_ _ | refine blk_drew ?_ | refine blk_alloc ?_ _)); refine blk_far ?_ NB175_194.out _; (with_reducible repeat (first | refine blk_drewN ?_ _ | refine blk_drew ?_ | refine blk_alloc ?_ _)); exact BK175.out) hb); have n7_ := Aside0.mk (blk_below (g := gb181) (o := .cells #[.slice Ao28 t176.length co28] 24 (0, 0)) (by (with_reducible repeat (first | refine blk_drewN ?_ _ | refine blk_drew ?_ | refine blk_alloc ?_ _)); refine blk_far ?_ NB181_194.out _; (with_reducible repeat (first | refine blk_drewN ?_ _ | refine blk_drew ?_ | refine blk_alloc ?_ _)); exact BK181.out) hb); have n8_ := Aside0.mk (blk_below (g := gb194) (o := .cells #[.slice Ao41 t190.length co41] 24 (0, 0)) (by (with_reducible repeat (first | refine blk_drewN ?_ _ | refine blk_drew ?_ | refine blk_alloc ?_ _)); refine blk_put (cs := #[.slice none 0 0]) ?_ 0 _ rfl; (with_reducible repeat (first | refine blk_drewN ?_ _ | refine blk_drew ?_ | refine blk_alloc ?_ _)); exact BK194.out) hb); have n9_ := Aside0.mk (below_step (by repeat (first | (with_reducible first | exact HB.out | apply below_alloc | apply pw_below_drewN | apply below_drew1 | refine below_set ?_ GE165.out | refine below_set ?_ GE175.out | refine below_set ?_ GE181.out | refine below_set ?_ GE194.out) | exact HB.out)) hb); clear HO164; clear HO172; clear HO178; clear HO187; clear HO192; clear BK165; clear BK175; clear BK181; clear BK194; clear HB; have HO164 := n0_; have HO172 := n1_; have HO178 := n2_; have HO187 := n3_; have HO192 := n4_; have BK165 := n5_; have BK175 := n6_; have BK181 := n7_; have BK194 := n8_; have HB := n9_; clear n0_ n1_ n2_ n3_ n4_ n5_ n6_ n7_ n8_ n9_; (try clear hb); (try clear hb2); (try clear hk); (try clear hi)) | ((with_reducible refine gate_callee (f := 33) rfl ?_); refine goesL_ (some 75) rfl rfl Tryd.func33 (by kernel_rfl) rfl #[.agg #[.slice none 0 0]] rfl (by (try simp only [List.map_toArray, List.map_cons, List.map_nil]); first | done | rfl | (simp only [List.length_drop, List.length_take]; rfl)) ?_; (refine (pack_Weakest.calls _ _ ([] : List (S48)) t197 t198 t199 _ ?side1 ?side2 A10.out).mono ?_); (case side1 => exact Kd.C_nil _ _); (case side2 => exact Nat.le_refl _); rintro e w48 ⟨rfl, hb⟩; refine ⟨_, rfl, ?_⟩; have n0_ := Aside0.mk (Kd.R_below (by (with_reducible repeat (first | apply Kd.R_alloc | apply Kd.R_drewN | apply Kd.R_drew)); exact HO164.out) hb); have n1_ := Aside0.mk (Kd.R_below (by (with_reducible repeat (first | apply Kd.R_alloc | apply Kd.R_drewN | apply Kd.R_drew)); exact HO172.out) hb); have n2_ := Aside0.mk (Kd.R_below (by (with_reducible repeat (first | apply Kd.R_alloc | apply Kd.R_drewN | apply Kd.R_drew)); exact HO178.out) hb); have n3_ := Aside0.mk (Kd.R_below (by (with_reducible repeat (first | apply Kd.R_alloc | apply Kd.R_drewN | apply Kd.R_drew)); exact HO187.out) hb); have n4_ := Aside0.mk (Kd.R_below (by (with_reducible repeat (first | apply Kd.R_alloc | apply Kd.R_drewN | apply Kd.R_drew)); exact HO192.out) hb); have n5_ := Aside0.mk (blk_below (g := gb165) (o := .cells #[.slice Ao14 t162.length co14] 24 (0, 0)) (by (with_reducible repeat (first | refine blk_drewN ?_ _ | refine blk_drew ?_ | refine blk_alloc ?_ _)); exact BK165.out) hb); have n6_ := Aside0.mk (blk_below (g := gb175) (o := .cells #[.slice Ao22 t170.length co22] 24 (0, 0)) (by (with_reducible repeat (first | refine blk_drewN ?_ _ | refine blk_drew ?_ | refine blk_alloc ?_ _)); exact BK175.out) hb); have n7_ := Aside0.mk (blk_below (g := gb181) (o := .cells #[.slice Ao28 t176.length co28] 24 (0, 0)) (by (with_reducible repeat (first | refine blk_drewN ?_ _ | refine blk_drew ?_ | refine blk_alloc ?_ _)); exact BK181.out) hb); have n8_ := Aside0.mk (blk_below (g := gb194) (o := .cells #[.slice Ao41 t190.length co41] 24 (0, 0)) (by (with_reducible repeat (first | refine blk_drewN ?_ _ | refine blk_drew ?_ | refine blk_alloc ?_ _)); exact BK194.out) hb); have n9_ := Aside0.mk (below_step (by repeat (first | (with_reducible first | exact HB.out | apply below_alloc | apply pw_below_drewN | apply below_drew1 | refine below_set ?_ GE165.out | refine below_set ?_ GE175.out | refine below_set ?_ GE181.out | refine below_set ?_ GE194.out) | exact HB.out)) hb); clear HO164; clear HO172; clear HO178; clear HO187; clear HO192; clear BK165; clear BK175; clear BK181; clear BK194; clear HB; have HO164 := n0_; have HO172 := n1_; have HO178 := n2_; have HO187 := n3_; have HO192 := n4_; have BK165 := n5_; have BK175 := n6_; have BK181 := n7_; have BK194 := n8_; have HB := n9_; clear n0_ n1_ n2_ n3_ n4_ n5_ n6_ n7_ n8_ n9_; (try clear hb); (try clear hb2); (try clear hk); (try clear hi)))
  (try simp only [Act.put, List.setIfInBounds_toArray, List.set_cons_zero, List.set_cons_succ])
  go_cut [112] (fun v112 wc => ∃ (kq : Nat) (x112_10 : Bool), v112 = .bool x112_10 ∧ Aside0 (snowlinelaw02_sane.j0 kq t166 t168 t173 t179 t182 t183 t188 t195 x112_10 t170 t176 t190 = some r) ∧ Aside0 (kq ≤ k) ∧ Aside0 (Kd.R k48 48 wc w.heap.size (fun k_ => some k_ ≠ ((.slice Ao22 t170.length co22) : Value).ownBlock ∧ some k_ ≠ ((.slice Ao28 t176.length co28) : Value).ownBlock ∧ some k_ ≠ ((.slice Ao41 t190.length co41) : Value).ownBlock) (.slice Ao14 t162.length co14) t162) ∧ Aside0 (Kd.R k48 48 wc w.heap.size (fun k_ => some k_ ≠ ((.slice Ao14 t162.length co14) : Value).ownBlock ∧ some k_ ≠ ((.slice Ao28 t176.length co28) : Value).ownBlock ∧ some k_ ≠ ((.slice Ao41 t190.length co41) : Value).ownBlock) (.slice Ao22 t170.length co22) t170) ∧ Aside0 (Kd.R k48 48 wc w.heap.size (fun k_ => some k_ ≠ ((.slice Ao14 t162.length co14) : Value).ownBlock ∧ some k_ ≠ ((.slice Ao22 t170.length co22) : Value).ownBlock ∧ some k_ ≠ ((.slice Ao41 t190.length co41) : Value).ownBlock) (.slice Ao28 t176.length co28) t176) ∧ Aside0 (Kd.R k48 48 wc w.heap.size (fun k_ => some k_ ≠ ((.slice Ao14 t162.length co14) : Value).ownBlock ∧ some k_ ≠ ((.slice Ao22 t170.length co22) : Value).ownBlock ∧ some k_ ≠ ((.slice Ao28 t176.length co28) : Value).ownBlock) (.slice Ao41 t190.length co41) t190) ∧ Aside0 (wc.heap[gb165]? = some (.cells #[(.slice Ao14 t162.length co14)] 24 (0, 0))) ∧ Aside0 (wc.heap[gb175]? = some (.cells #[(.slice Ao22 t170.length co22)] 24 (0, 0))) ∧ Aside0 (wc.heap[gb181]? = some (.cells #[(.slice Ao28 t176.length co28)] 24 (0, 0))) ∧ Aside0 (wc.heap[gb194]? = some (.cells #[(.slice Ao41 t190.length co41)] 24 (0, 0))) ∧ Aside0 (Below w.heap.size w wc))
  case first =>
    have H := HC11.out
    clear HC11
    by_cases c49 : t167 = 0
    · rw [if_pos c49] at H
      have c49b0 : (t167 == 0) = true := beq_iff_eq.mpr c49
      have c49b1 : (t167 != 0) = false := bne_eq_false_iff_eq.mpr c49
      clear c49
      (first | rw [c49b0] | (simp only [i64_w, i32_w]; rw [c49b0]) | skip)
      by_cases c50 : t169 = 0
      · rw [if_pos c50] at H
        have c50b0 : (t169 == 0) = true := beq_iff_eq.mpr c50
        have c50b1 : (t169 != 0) = false := bne_eq_false_iff_eq.mpr c50
        clear c50
        by_cases c51 : t174 = 0
        · rw [if_pos c51] at H
          have c51b0 : (t174 == 0) = true := beq_iff_eq.mpr c51
          have c51b1 : (t174 != 0) = false := bne_eq_false_iff_eq.mpr c51
          clear c51
          by_cases c52 : t180 = 0
          · rw [if_pos c52] at H
            have c52b0 : (t180 == 0) = true := beq_iff_eq.mpr c52
            have c52b1 : (t180 != 0) = false := bne_eq_false_iff_eq.mpr c52
            clear c52
            by_cases c53 : t184 = 0
            · rw [if_pos c53] at H
              have c53b0 : (t184 == 0) = true := beq_iff_eq.mpr c53
              have c53b1 : (t184 != 0) = false := bne_eq_false_iff_eq.mpr c53
              clear c53
              by_cases c54 : t189 = 0
              · rw [if_pos c54] at H
                have c54b0 : (t189 == 0) = true := beq_iff_eq.mpr c54
                have c54b1 : (t189 != 0) = false := bne_eq_false_iff_eq.mpr c54
                clear c54
                by_cases c55 : t193 = 0
                · rw [if_pos c55] at H
                  have c55b0 : (t193 == 0) = true := beq_iff_eq.mpr c55
                  have c55b1 : (t193 != 0) = false := bne_eq_false_iff_eq.mpr c55
                  clear c55
                  by_cases c56 : t196 = 0
                  · rw [if_pos c56] at H
                    have c56b0 : (t196 == 0) = true := beq_iff_eq.mpr c56
                    have c56b1 : (t196 != 0) = false := bne_eq_false_iff_eq.mpr c56
                    clear c56
                    have H' := Aside0.mk H
                    clear H
                    go_wp2
                    go_meet
                    case rel => exact ⟨_, ((t199 != 4)), (by first | rfl | (simp; done) | (simp [*]; done)), H', ⟨by first | omega | exact Nat.le_refl _⟩, ⟨by (with_reducible repeat (first | apply Kd.R_alloc | apply Kd.R_drewN | apply Kd.R_drew)); exact Kd.R_mono HO164.out (fun _ hk => ⟨hk.1.1.1.2, ⟨hk.1.1.2, hk.2⟩⟩)⟩, ⟨by (with_reducible repeat (first | apply Kd.R_alloc | apply Kd.R_drewN | apply Kd.R_drew)); exact Kd.R_mono HO172.out (fun _ hk => ⟨hk.1.1.1.2, ⟨hk.1.1.2, hk.2⟩⟩)⟩, ⟨by (with_reducible repeat (first | apply Kd.R_alloc | apply Kd.R_drewN | apply Kd.R_drew)); exact Kd.R_mono HO178.out (fun _ hk => ⟨hk.1.1.1.2, ⟨hk.1.1.2, hk.2⟩⟩)⟩, ⟨by (with_reducible repeat (first | apply Kd.R_alloc | apply Kd.R_drewN | apply Kd.R_drew)); exact Kd.R_mono HO192.out (fun _ hk => ⟨hk.1.1.1.2, ⟨hk.1.1.2, hk.1.2⟩⟩)⟩, ⟨by (with_reducible repeat (first | refine blk_drewN ?_ _ | refine blk_drew ?_ | refine blk_alloc ?_ _)); exact BK165.out⟩, ⟨by (with_reducible repeat (first | refine blk_drewN ?_ _ | refine blk_drew ?_ | refine blk_alloc ?_ _)); exact BK175.out⟩, ⟨by (with_reducible repeat (first | refine blk_drewN ?_ _ | refine blk_drew ?_ | refine blk_alloc ?_ _)); exact BK181.out⟩, ⟨by (with_reducible repeat (first | refine blk_drewN ?_ _ | refine blk_drew ?_ | refine blk_alloc ?_ _)); exact BK194.out⟩, ⟨by repeat (first | (with_reducible first | exact HB.out | apply below_alloc | apply pw_below_drewN | apply below_drew1 | refine below_set ?_ GE165.out | refine below_set ?_ GE175.out | refine below_set ?_ GE181.out | refine below_set ?_ GE194.out) | exact HB.out)⟩⟩
                  · rw [if_neg c56] at H
                    have c56b0 : (t196 == 0) = false := beq_eq_false_iff_ne.mpr c56
                    have c56b1 : (t196 != 0) = true := bne_iff_ne.mpr c56
                    have H' := Aside0.mk H
                    clear H
                    go_wp2
                    go_meet
                    case rel => exact ⟨_, (true), (by first | rfl | (simp; done) | (simp [*]; done)), H', ⟨by first | omega | exact Nat.le_refl _⟩, ⟨by (with_reducible repeat (first | apply Kd.R_alloc | apply Kd.R_drewN | apply Kd.R_drew)); exact Kd.R_mono HO164.out (fun _ hk => ⟨hk.1.1.1.2, ⟨hk.1.1.2, hk.2⟩⟩)⟩, ⟨by (with_reducible repeat (first | apply Kd.R_alloc | apply Kd.R_drewN | apply Kd.R_drew)); exact Kd.R_mono HO172.out (fun _ hk => ⟨hk.1.1.1.2, ⟨hk.1.1.2, hk.2⟩⟩)⟩, ⟨by (with_reducible repeat (first | apply Kd.R_alloc | apply Kd.R_drewN | apply Kd.R_drew)); exact Kd.R_mono HO178.out (fun _ hk => ⟨hk.1.1.1.2, ⟨hk.1.1.2, hk.2⟩⟩)⟩, ⟨by (with_reducible repeat (first | apply Kd.R_alloc | apply Kd.R_drewN | apply Kd.R_drew)); exact Kd.R_mono HO192.out (fun _ hk => ⟨hk.1.1.1.2, ⟨hk.1.1.2, hk.1.2⟩⟩)⟩, ⟨by (with_reducible repeat (first | refine blk_drewN ?_ _ | refine blk_drew ?_ | refine blk_alloc ?_ _)); exact BK165.out⟩, ⟨by (with_reducible repeat (first | refine blk_drewN ?_ _ | refine blk_drew ?_ | refine blk_alloc ?_ _)); exact BK175.out⟩, ⟨by (with_reducible repeat (first | refine blk_drewN ?_ _ | refine blk_drew ?_ | refine blk_alloc ?_ _)); exact BK181.out⟩, ⟨by (with_reducible repeat (first | refine blk_drewN ?_ _ | refine blk_drew ?_ | refine blk_alloc ?_ _)); exact BK194.out⟩, ⟨by repeat (first | (with_reducible first | exact HB.out | apply below_alloc | apply pw_below_drewN | apply below_drew1 | refine below_set ?_ GE165.out | refine below_set ?_ GE175.out | refine below_set ?_ GE181.out | refine below_set ?_ GE194.out) | exact HB.out)⟩⟩
                · rw [if_neg c55] at H
                  have c55b0 : (t193 == 0) = false := beq_eq_false_iff_ne.mpr c55
                  have c55b1 : (t193 != 0) = true := bne_iff_ne.mpr c55
                  have H' := Aside0.mk H
                  clear H
                  go_wp2
                  go_meet
                  case rel => exact ⟨_, (true), (by first | rfl | (simp; done) | (simp [*]; done)), H', ⟨by first | omega | exact Nat.le_refl _⟩, ⟨by (with_reducible repeat (first | apply Kd.R_alloc | apply Kd.R_drewN | apply Kd.R_drew)); exact Kd.R_mono HO164.out (fun _ hk => ⟨hk.1.1.1.2, ⟨hk.1.1.2, hk.2⟩⟩)⟩, ⟨by (with_reducible repeat (first | apply Kd.R_alloc | apply Kd.R_drewN | apply Kd.R_drew)); exact Kd.R_mono HO172.out (fun _ hk => ⟨hk.1.1.1.2, ⟨hk.1.1.2, hk.2⟩⟩)⟩, ⟨by (with_reducible repeat (first | apply Kd.R_alloc | apply Kd.R_drewN | apply Kd.R_drew)); exact Kd.R_mono HO178.out (fun _ hk => ⟨hk.1.1.1.2, ⟨hk.1.1.2, hk.2⟩⟩)⟩, ⟨by (with_reducible repeat (first | apply Kd.R_alloc | apply Kd.R_drewN | apply Kd.R_drew)); exact Kd.R_mono HO192.out (fun _ hk => ⟨hk.1.1.1.2, ⟨hk.1.1.2, hk.1.2⟩⟩)⟩, ⟨by (with_reducible repeat (first | refine blk_drewN ?_ _ | refine blk_drew ?_ | refine blk_alloc ?_ _)); exact BK165.out⟩, ⟨by (with_reducible repeat (first | refine blk_drewN ?_ _ | refine blk_drew ?_ | refine blk_alloc ?_ _)); exact BK175.out⟩, ⟨by (with_reducible repeat (first | refine blk_drewN ?_ _ | refine blk_drew ?_ | refine blk_alloc ?_ _)); exact BK181.out⟩, ⟨by (with_reducible repeat (first | refine blk_drewN ?_ _ | refine blk_drew ?_ | refine blk_alloc ?_ _)); exact BK194.out⟩, ⟨by repeat (first | (with_reducible first | exact HB.out | apply below_alloc | apply pw_below_drewN | apply below_drew1 | refine below_set ?_ GE165.out | refine below_set ?_ GE175.out | refine below_set ?_ GE181.out | refine below_set ?_ GE194.out) | exact HB.out)⟩⟩
              · rw [if_neg c54] at H
                have c54b0 : (t189 == 0) = false := beq_eq_false_iff_ne.mpr c54
                have c54b1 : (t189 != 0) = true := bne_iff_ne.mpr c54
                have H' := Aside0.mk H
                clear H
                go_wp2
                go_meet
                case rel => exact ⟨_, (true), (by first | rfl | (simp; done) | (simp [*]; done)), H', ⟨by first | omega | exact Nat.le_refl _⟩, ⟨by (with_reducible repeat (first | apply Kd.R_alloc | apply Kd.R_drewN | apply Kd.R_drew)); exact Kd.R_mono HO164.out (fun _ hk => ⟨hk.1.1.1.2, ⟨hk.1.1.2, hk.2⟩⟩)⟩, ⟨by (with_reducible repeat (first | apply Kd.R_alloc | apply Kd.R_drewN | apply Kd.R_drew)); exact Kd.R_mono HO172.out (fun _ hk => ⟨hk.1.1.1.2, ⟨hk.1.1.2, hk.2⟩⟩)⟩, ⟨by (with_reducible repeat (first | apply Kd.R_alloc | apply Kd.R_drewN | apply Kd.R_drew)); exact Kd.R_mono HO178.out (fun _ hk => ⟨hk.1.1.1.2, ⟨hk.1.1.2, hk.2⟩⟩)⟩, ⟨by (with_reducible repeat (first | apply Kd.R_alloc | apply Kd.R_drewN | apply Kd.R_drew)); exact Kd.R_mono HO192.out (fun _ hk => ⟨hk.1.1.1.2, ⟨hk.1.1.2, hk.1.2⟩⟩)⟩, ⟨by (with_reducible repeat (first | refine blk_drewN ?_ _ | refine blk_drew ?_ | refine blk_alloc ?_ _)); exact BK165.out⟩, ⟨by (with_reducible repeat (first | refine blk_drewN ?_ _ | refine blk_drew ?_ | refine blk_alloc ?_ _)); exact BK175.out⟩, ⟨by (with_reducible repeat (first | refine blk_drewN ?_ _ | refine blk_drew ?_ | refine blk_alloc ?_ _)); exact BK181.out⟩, ⟨by (with_reducible repeat (first | refine blk_drewN ?_ _ | refine blk_drew ?_ | refine blk_alloc ?_ _)); exact BK194.out⟩, ⟨by repeat (first | (with_reducible first | exact HB.out | apply below_alloc | apply pw_below_drewN | apply below_drew1 | refine below_set ?_ GE165.out | refine below_set ?_ GE175.out | refine below_set ?_ GE181.out | refine below_set ?_ GE194.out) | exact HB.out)⟩⟩
            · rw [if_neg c53] at H
              have c53b0 : (t184 == 0) = false := beq_eq_false_iff_ne.mpr c53
              have c53b1 : (t184 != 0) = true := bne_iff_ne.mpr c53
              have H' := Aside0.mk H
              clear H
              go_wp2
              go_meet
              case rel => exact ⟨_, (true), (by first | rfl | (simp; done) | (simp [*]; done)), H', ⟨by first | omega | exact Nat.le_refl _⟩, ⟨by (with_reducible repeat (first | apply Kd.R_alloc | apply Kd.R_drewN | apply Kd.R_drew)); exact Kd.R_mono HO164.out (fun _ hk => ⟨hk.1.1.1.2, ⟨hk.1.1.2, hk.2⟩⟩)⟩, ⟨by (with_reducible repeat (first | apply Kd.R_alloc | apply Kd.R_drewN | apply Kd.R_drew)); exact Kd.R_mono HO172.out (fun _ hk => ⟨hk.1.1.1.2, ⟨hk.1.1.2, hk.2⟩⟩)⟩, ⟨by (with_reducible repeat (first | apply Kd.R_alloc | apply Kd.R_drewN | apply Kd.R_drew)); exact Kd.R_mono HO178.out (fun _ hk => ⟨hk.1.1.1.2, ⟨hk.1.1.2, hk.2⟩⟩)⟩, ⟨by (with_reducible repeat (first | apply Kd.R_alloc | apply Kd.R_drewN | apply Kd.R_drew)); exact Kd.R_mono HO192.out (fun _ hk => ⟨hk.1.1.1.2, ⟨hk.1.1.2, hk.1.2⟩⟩)⟩, ⟨by (with_reducible repeat (first | refine blk_drewN ?_ _ | refine blk_drew ?_ | refine blk_alloc ?_ _)); exact BK165.out⟩, ⟨by (with_reducible repeat (first | refine blk_drewN ?_ _ | refine blk_drew ?_ | refine blk_alloc ?_ _)); exact BK175.out⟩, ⟨by (with_reducible repeat (first | refine blk_drewN ?_ _ | refine blk_drew ?_ | refine blk_alloc ?_ _)); exact BK181.out⟩, ⟨by (with_reducible repeat (first | refine blk_drewN ?_ _ | refine blk_drew ?_ | refine blk_alloc ?_ _)); exact BK194.out⟩, ⟨by repeat (first | (with_reducible first | exact HB.out | apply below_alloc | apply pw_below_drewN | apply below_drew1 | refine below_set ?_ GE165.out | refine below_set ?_ GE175.out | refine below_set ?_ GE181.out | refine below_set ?_ GE194.out) | exact HB.out)⟩⟩
          · rw [if_neg c52] at H
            have c52b0 : (t180 == 0) = false := beq_eq_false_iff_ne.mpr c52
            have c52b1 : (t180 != 0) = true := bne_iff_ne.mpr c52
            have H' := Aside0.mk H
            clear H
            go_wp2
            go_meet
            case rel => exact ⟨_, (true), (by first | rfl | (simp; done) | (simp [*]; done)), H', ⟨by first | omega | exact Nat.le_refl _⟩, ⟨by (with_reducible repeat (first | apply Kd.R_alloc | apply Kd.R_drewN | apply Kd.R_drew)); exact Kd.R_mono HO164.out (fun _ hk => ⟨hk.1.1.1.2, ⟨hk.1.1.2, hk.2⟩⟩)⟩, ⟨by (with_reducible repeat (first | apply Kd.R_alloc | apply Kd.R_drewN | apply Kd.R_drew)); exact Kd.R_mono HO172.out (fun _ hk => ⟨hk.1.1.1.2, ⟨hk.1.1.2, hk.2⟩⟩)⟩, ⟨by (with_reducible repeat (first | apply Kd.R_alloc | apply Kd.R_drewN | apply Kd.R_drew)); exact Kd.R_mono HO178.out (fun _ hk => ⟨hk.1.1.1.2, ⟨hk.1.1.2, hk.2⟩⟩)⟩, ⟨by (with_reducible repeat (first | apply Kd.R_alloc | apply Kd.R_drewN | apply Kd.R_drew)); exact Kd.R_mono HO192.out (fun _ hk => ⟨hk.1.1.1.2, ⟨hk.1.1.2, hk.1.2⟩⟩)⟩, ⟨by (with_reducible repeat (first | refine blk_drewN ?_ _ | refine blk_drew ?_ | refine blk_alloc ?_ _)); exact BK165.out⟩, ⟨by (with_reducible repeat (first | refine blk_drewN ?_ _ | refine blk_drew ?_ | refine blk_alloc ?_ _)); exact BK175.out⟩, ⟨by (with_reducible repeat (first | refine blk_drewN ?_ _ | refine blk_drew ?_ | refine blk_alloc ?_ _)); exact BK181.out⟩, ⟨by (with_reducible repeat (first | refine blk_drewN ?_ _ | refine blk_drew ?_ | refine blk_alloc ?_ _)); exact BK194.out⟩, ⟨by repeat (first | (with_reducible first | exact HB.out | apply below_alloc | apply pw_below_drewN | apply below_drew1 | refine below_set ?_ GE165.out | refine below_set ?_ GE175.out | refine below_set ?_ GE181.out | refine below_set ?_ GE194.out) | exact HB.out)⟩⟩
        · rw [if_neg c51] at H
          have c51b0 : (t174 == 0) = false := beq_eq_false_iff_ne.mpr c51
          have c51b1 : (t174 != 0) = true := bne_iff_ne.mpr c51
          have H' := Aside0.mk H
          clear H
          go_wp2
          go_meet
          case rel => exact ⟨_, (true), (by first | rfl | (simp; done) | (simp [*]; done)), H', ⟨by first | omega | exact Nat.le_refl _⟩, ⟨by (with_reducible repeat (first | apply Kd.R_alloc | apply Kd.R_drewN | apply Kd.R_drew)); exact Kd.R_mono HO164.out (fun _ hk => ⟨hk.1.1.1.2, ⟨hk.1.1.2, hk.2⟩⟩)⟩, ⟨by (with_reducible repeat (first | apply Kd.R_alloc | apply Kd.R_drewN | apply Kd.R_drew)); exact Kd.R_mono HO172.out (fun _ hk => ⟨hk.1.1.1.2, ⟨hk.1.1.2, hk.2⟩⟩)⟩, ⟨by (with_reducible repeat (first | apply Kd.R_alloc | apply Kd.R_drewN | apply Kd.R_drew)); exact Kd.R_mono HO178.out (fun _ hk => ⟨hk.1.1.1.2, ⟨hk.1.1.2, hk.2⟩⟩)⟩, ⟨by (with_reducible repeat (first | apply Kd.R_alloc | apply Kd.R_drewN | apply Kd.R_drew)); exact Kd.R_mono HO192.out (fun _ hk => ⟨hk.1.1.1.2, ⟨hk.1.1.2, hk.1.2⟩⟩)⟩, ⟨by (with_reducible repeat (first | refine blk_drewN ?_ _ | refine blk_drew ?_ | refine blk_alloc ?_ _)); exact BK165.out⟩, ⟨by (with_reducible repeat (first | refine blk_drewN ?_ _ | refine blk_drew ?_ | refine blk_alloc ?_ _)); exact BK175.out⟩, ⟨by (with_reducible repeat (first | refine blk_drewN ?_ _ | refine blk_drew ?_ | refine blk_alloc ?_ _)); exact BK181.out⟩, ⟨by (with_reducible repeat (first | refine blk_drewN ?_ _ | refine blk_drew ?_ | refine blk_alloc ?_ _)); exact BK194.out⟩, ⟨by repeat (first | (with_reducible first | exact HB.out | apply below_alloc | apply pw_below_drewN | apply below_drew1 | refine below_set ?_ GE165.out | refine below_set ?_ GE175.out | refine below_set ?_ GE181.out | refine below_set ?_ GE194.out) | exact HB.out)⟩⟩
      · rw [if_neg c50] at H
        have c50b0 : (t169 == 0) = false := beq_eq_false_iff_ne.mpr c50
        have c50b1 : (t169 != 0) = true := bne_iff_ne.mpr c50
        have H' := Aside0.mk H
        clear H
        go_wp2
        go_meet
        case rel => exact ⟨_, (true), (by first | rfl | (simp; done) | (simp [*]; done)), H', ⟨by first | omega | exact Nat.le_refl _⟩, ⟨by (with_reducible repeat (first | apply Kd.R_alloc | apply Kd.R_drewN | apply Kd.R_drew)); exact Kd.R_mono HO164.out (fun _ hk => ⟨hk.1.1.1.2, ⟨hk.1.1.2, hk.2⟩⟩)⟩, ⟨by (with_reducible repeat (first | apply Kd.R_alloc | apply Kd.R_drewN | apply Kd.R_drew)); exact Kd.R_mono HO172.out (fun _ hk => ⟨hk.1.1.1.2, ⟨hk.1.1.2, hk.2⟩⟩)⟩, ⟨by (with_reducible repeat (first | apply Kd.R_alloc | apply Kd.R_drewN | apply Kd.R_drew)); exact Kd.R_mono HO178.out (fun _ hk => ⟨hk.1.1.1.2, ⟨hk.1.1.2, hk.2⟩⟩)⟩, ⟨by (with_reducible repeat (first | apply Kd.R_alloc | apply Kd.R_drewN | apply Kd.R_drew)); exact Kd.R_mono HO192.out (fun _ hk => ⟨hk.1.1.1.2, ⟨hk.1.1.2, hk.1.2⟩⟩)⟩, ⟨by (with_reducible repeat (first | refine blk_drewN ?_ _ | refine blk_drew ?_ | refine blk_alloc ?_ _)); exact BK165.out⟩, ⟨by (with_reducible repeat (first | refine blk_drewN ?_ _ | refine blk_drew ?_ | refine blk_alloc ?_ _)); exact BK175.out⟩, ⟨by (with_reducible repeat (first | refine blk_drewN ?_ _ | refine blk_drew ?_ | refine blk_alloc ?_ _)); exact BK181.out⟩, ⟨by (with_reducible repeat (first | refine blk_drewN ?_ _ | refine blk_drew ?_ | refine blk_alloc ?_ _)); exact BK194.out⟩, ⟨by repeat (first | (with_reducible first | exact HB.out | apply below_alloc | apply pw_below_drewN | apply below_drew1 | refine below_set ?_ GE165.out | refine below_set ?_ GE175.out | refine below_set ?_ GE181.out | refine below_set ?_ GE194.out) | exact HB.out)⟩⟩
    · rw [if_neg c49] at H
      have c49b0 : (t167 == 0) = false := beq_eq_false_iff_ne.mpr c49
      have c49b1 : (t167 != 0) = true := bne_iff_ne.mpr c49
      (first | rw [c49b0] | (simp only [i64_w, i32_w]; rw [c49b0]) | skip)
      have H' := Aside0.mk H
      clear H
      go_wp2
      go_meet
      case rel => exact ⟨_, (true), (by first | rfl | (simp; done) | (simp [*]; done)), H', ⟨by first | omega | exact Nat.le_refl _⟩, ⟨by (with_reducible repeat (first | apply Kd.R_alloc | apply Kd.R_drewN | apply Kd.R_drew)); exact Kd.R_mono HO164.out (fun _ hk => ⟨hk.1.1.1.2, ⟨hk.1.1.2, hk.2⟩⟩)⟩, ⟨by (with_reducible repeat (first | apply Kd.R_alloc | apply Kd.R_drewN | apply Kd.R_drew)); exact Kd.R_mono HO172.out (fun _ hk => ⟨hk.1.1.1.2, ⟨hk.1.1.2, hk.2⟩⟩)⟩, ⟨by (with_reducible repeat (first | apply Kd.R_alloc | apply Kd.R_drewN | apply Kd.R_drew)); exact Kd.R_mono HO178.out (fun _ hk => ⟨hk.1.1.1.2, ⟨hk.1.1.2, hk.2⟩⟩)⟩, ⟨by (with_reducible repeat (first | apply Kd.R_alloc | apply Kd.R_drewN | apply Kd.R_drew)); exact Kd.R_mono HO192.out (fun _ hk => ⟨hk.1.1.1.2, ⟨hk.1.1.2, hk.1.2⟩⟩)⟩, ⟨by (with_reducible repeat (first | refine blk_drewN ?_ _ | refine blk_drew ?_ | refine blk_alloc ?_ _)); exact BK165.out⟩, ⟨by (with_reducible repeat (first | refine blk_drewN ?_ _ | refine blk_drew ?_ | refine blk_alloc ?_ _)); exact BK175.out⟩, ⟨by (with_reducible repeat (first | refine blk_drewN ?_ _ | refine blk_drew ?_ | refine blk_alloc ?_ _)); exact BK181.out⟩, ⟨by (with_reducible repeat (first | refine blk_drewN ?_ _ | refine blk_drew ?_ | refine blk_alloc ?_ _)); exact BK194.out⟩, ⟨by repeat (first | (with_reducible first | exact HB.out | apply below_alloc | apply pw_below_drewN | apply below_drew1 | refine below_set ?_ GE165.out | refine below_set ?_ GE175.out | refine below_set ?_ GE181.out | refine below_set ?_ GE194.out) | exact HB.out)⟩⟩
  case rest =>
    clear HC11
    try clear c1
    try clear c2
    try clear p2
    try clear c3
    try clear c4
    try clear c5
    try clear c18
    try clear c21
    try clear c23
    try clear c24
    try clear c26
    try clear c29
    try clear c30
    try clear c33
    try clear c37
    try clear c42
    try clear c43
    try clear c44
    try clear c49
    try clear c49b0
    try clear c49b1
    try clear c50
    try clear c50b0
    try clear c50b1
    try clear c51
    try clear c51b0
    try clear c51b1
    try clear c52
    try clear c52b0
    try clear c52b1
    try clear c53
    try clear c53b0
    try clear c53b1
    try clear c54
    try clear c54b0
    try clear c54b1
    try clear c55
    try clear c55b0
    try clear c55b1
    try clear c56
    try clear c56b0
    try clear c56b1
    try clear hcz15_0
    try clear hcz17_0
    try clear hcz19_0
    try clear hcz24_0
    try clear hcz25_0
    try clear hcz31_0
    try clear hcz32_0
    try clear hcz38_0
    try clear hcz45_0
    try clear hcz46_0
    try clear hfz15_0
    try clear hfz17_0
    try clear hfz19_0
    try clear hfz24_0
    try clear hfz25_0
    try clear hfz31_0
    try clear hfz32_0
    try clear hfz38_0
    try clear hfz45_0
    try clear hfz46_0
    obtain ⟨kq, x112_10, rfl, HA, HJ10, HO_166000, HO_176000, HO_182000, HO_195000, BK165, BK175, BK181, BK194, HB⟩ := hcut
    cases kq with
    | zero => exact absurd HA.out (by simp [snowlinelaw02_sane.j0])
    | succ kj10 =>
      have H := HA.out
      clear HA
      simp only [snowlinelaw02_sane.j0] at H
      by_cases c57 : x112_10 = true
      · subst c57
        have H1 : (some false) = some r := by rw [if_pos rfl] at H; exact H
        clear H
        have H := H1
        clear H1
        obtain rfl := Option.some.inj H
        go_wp2
        go_ret
        exact ⟨by first | rfl | (simp [errW_none, errW_some] <;> rfl) | (simp [*, errW_none, errW_some] <;> rfl), by repeat (first | (with_reducible first | exact HB.out | apply below_alloc | apply pw_below_drewN | apply below_drew1 | refine below_set ?_ GE165.out | refine below_set ?_ GE175.out | refine below_set ?_ GE181.out | refine below_set ?_ GE194.out) | exact HB.out)⟩
      · replace c57 := Bool.eq_false_iff.mpr c57
        subst c57
        have H1 : (if t166 = 142 then (if t168 = 10 then (if t173 = 13 then (if t179 = 0 then (if t182 = 1 then (if t183 = 42 then (if t188 = 27 then (if t195.toList = ([112, 97, 99, 107, 32, 52, 48, 47, 50, 47, 48, 32, 49, 48, 48, 47, 48, 47, 53] : List UInt8) then ((snowlineref02_Same.f kj10 t170 (([(⟨19, 0, 0⟩ : S48), (⟨105, 5, 0⟩ : S48)] : List (S48)))).bind fun t203 => (if t203 = true then ((snowlineref02_Same.f kj10 t176 (([(⟨92, 0, 3⟩ : S48)] : List (S48)))).bind fun t207 => (if t207 = true then ((snowlineref02_Same.f kj10 t190 (([(⟨142, 0, 3⟩ : S48)] : List (S48)))).bind fun t211 => (some t211)) else (some false))) else (some false))) else (some false)) else (some false)) else (some false)) else (some false)) else (some false)) else (some false)) else (some false)) else (some false)) = some r := by rw [if_neg (show ¬ (false = true) by decide)] at H; exact H
        clear H
        have H := H1
        clear H1
        by_cases c58 : t166 = 142
        · rw [if_pos c58] at H
          have c58b0 : (t166 == 142) = true := beq_iff_eq.mpr c58
          have c58b1 : (t166 != 142) = false := bne_eq_false_iff_eq.mpr c58
          clear c58
          by_cases c59 : t168 = 10
          · rw [if_pos c59] at H
            have c59b0 : (t168 == 10) = true := beq_iff_eq.mpr c59
            have c59b1 : (t168 != 10) = false := bne_eq_false_iff_eq.mpr c59
            clear c59
            by_cases c60 : t173 = 13
            · rw [if_pos c60] at H
              have c60b0 : (t173 == 13) = true := beq_iff_eq.mpr c60
              have c60b1 : (t173 != 13) = false := bne_eq_false_iff_eq.mpr c60
              clear c60
              by_cases c61 : t179 = 0
              · rw [if_pos c61] at H
                have c61b0 : (t179 == 0) = true := beq_iff_eq.mpr c61
                have c61b1 : (t179 != 0) = false := bne_eq_false_iff_eq.mpr c61
                clear c61
                by_cases c62 : t182 = 1
                · rw [if_pos c62] at H
                  have c62b0 : (t182 == 1) = true := beq_iff_eq.mpr c62
                  have c62b1 : (t182 != 1) = false := bne_eq_false_iff_eq.mpr c62
                  clear c62
                  by_cases c63 : t183 = 42
                  · rw [if_pos c63] at H
                    have c63b0 : (t183 == 42) = true := beq_iff_eq.mpr c63
                    have c63b1 : (t183 != 42) = false := bne_eq_false_iff_eq.mpr c63
                    clear c63
                    by_cases c64 : t188 = 27
                    · rw [if_pos c64] at H
                      have c64b0 : (t188 == 27) = true := beq_iff_eq.mpr c64
                      have c64b1 : (t188 != 27) = false := bne_eq_false_iff_eq.mpr c64
                      clear c64
                      by_cases c65 : t195.toList = ([112, 97, 99, 107, 32, 52, 48, 47, 50, 47, 48, 32, 49, 48, 48, 47, 48, 47, 53] : List UInt8)
                      · rw [if_pos c65] at H
                        have c65b0 : (t195.toList == ([112, 97, 99, 107, 32, 52, 48, 47, 50, 47, 48, 32, 49, 48, 48, 47, 48, 47, 53] : List UInt8)) = true := beq_iff_eq.mpr c65
                        have c65b1 : (t195.toList != ([112, 97, 99, 107, 32, 52, 48, 47, 50, 47, 48, 32, 49, 48, 48, 47, 48, 47, 53] : List UInt8)) = false := bne_eq_false_iff_eq.mpr c65
                        clear c65
                        obtain ⟨y200, hy200⟩ : ∃ y_ : List (S48), y_ = (([(⟨19, 0, 0⟩ : S48), (⟨105, 5, 0⟩ : S48)] : List (S48))) := ⟨_, rfl⟩
                        replace H : ((snowlineref02_Same.f kj10 t170 y200).bind fun t203 => (if t203 = true then ((snowlineref02_Same.f kj10 t176 (([(⟨92, 0, 3⟩ : S48)] : List (S48)))).bind fun t207 => (if t207 = true then ((snowlineref02_Same.f kj10 t190 (([(⟨142, 0, 3⟩ : S48)] : List (S48)))).bind fun t211 => (some t211)) else (some false))) else (some false))) = some r := by first | (rw [hy200]; with_reducible exact H) | (have H2_ := (Option.bind_some _ _).symm.trans H; rw [hy200]; with_reducible exact H2_) | (have H2_ := (Option.bind_some _ _).symm.trans H; with_reducible exact H2_) | with_reducible exact H | (rw [hy200]; exact H) | exact H
                        have Ny200 := Aside0.mk hy200
                        clear hy200
                        replace H := Option.bind_eq_some_iff.mp H
                        obtain ⟨t203, A660, H⟩ := H
                        replace H : (if t203 = true then ((snowlineref02_Same.f kj10 t176 (([(⟨92, 0, 3⟩ : S48)] : List (S48)))).bind fun t207 => (if t207 = true then ((snowlineref02_Same.f kj10 t190 (([(⟨142, 0, 3⟩ : S48)] : List (S48)))).bind fun t211 => (some t211)) else (some false))) else (some false)) = some r := H
                        have A66 := Aside0.mk A660
                        clear A660
                        by_cases c67 : t203 = true
                        · subst c67
                          have H1 : ((snowlineref02_Same.f kj10 t176 (([(⟨92, 0, 3⟩ : S48)] : List (S48)))).bind fun t207 => (if t207 = true then ((snowlineref02_Same.f kj10 t190 (([(⟨142, 0, 3⟩ : S48)] : List (S48)))).bind fun t211 => (some t211)) else (some false))) = some r := by rw [if_pos rfl] at H; exact H
                          clear H
                          have H := H1
                          clear H1
                          obtain ⟨y204, hy204⟩ : ∃ y_ : List (S48), y_ = (([(⟨92, 0, 3⟩ : S48)] : List (S48))) := ⟨_, rfl⟩
                          replace H : ((snowlineref02_Same.f kj10 t176 y204).bind fun t207 => (if t207 = true then ((snowlineref02_Same.f kj10 t190 (([(⟨142, 0, 3⟩ : S48)] : List (S48)))).bind fun t211 => (some t211)) else (some false))) = some r := by first | (rw [hy204]; with_reducible exact H) | (have H2_ := (Option.bind_some _ _).symm.trans H; rw [hy204]; with_reducible exact H2_) | (have H2_ := (Option.bind_some _ _).symm.trans H; with_reducible exact H2_) | with_reducible exact H | (rw [hy204]; exact H) | exact H
                          have Ny204 := Aside0.mk hy204
                          clear hy204
                          replace H := Option.bind_eq_some_iff.mp H
                          obtain ⟨t207, A680, H⟩ := H
                          replace H : (if t207 = true then ((snowlineref02_Same.f kj10 t190 (([(⟨142, 0, 3⟩ : S48)] : List (S48)))).bind fun t211 => (some t211)) else (some false)) = some r := H
                          have A68 := Aside0.mk A680
                          clear A680
                          by_cases c69 : t207 = true
                          · subst c69
                            have H1 : ((snowlineref02_Same.f kj10 t190 (([(⟨142, 0, 3⟩ : S48)] : List (S48)))).bind fun t211 => (some t211)) = some r := by rw [if_pos rfl] at H; exact H
                            clear H
                            have H := H1
                            clear H1
                            obtain ⟨y208, hy208⟩ : ∃ y_ : List (S48), y_ = (([(⟨142, 0, 3⟩ : S48)] : List (S48))) := ⟨_, rfl⟩
                            replace H : ((snowlineref02_Same.f kj10 t190 y208).bind fun t211 => (some t211)) = some r := by first | (rw [hy208]; with_reducible exact H) | (have H2_ := (Option.bind_some _ _).symm.trans H; rw [hy208]; with_reducible exact H2_) | (have H2_ := (Option.bind_some _ _).symm.trans H; with_reducible exact H2_) | with_reducible exact H | (rw [hy208]; exact H) | exact H
                            have Ny208 := Aside0.mk hy208
                            clear hy208
                            replace H := Option.bind_eq_some_iff.mp H
                            obtain ⟨t211, A700, H⟩ := H
                            replace H : (some t211) = some r := H
                            have A70 := Aside0.mk A700
                            clear A700
                            obtain rfl := Option.some.inj H
                            have hnb71 := NB175_165.out
                            have hnc71 := NB165_175.out
                            have hnb72 := NB175_181.out
                            have hnc72 := NB181_175.out
                            have hnb73 := NB175_194.out
                            have hnc73 := NB194_175.out
                            have hcz74_0 : wc.cell? ⟨gb175, 0, none⟩ = some (.slice Ao22 t170.length co22) := (blk_cell BK175.out 0).trans rfl
                            have hfz74_0 := blk_frozen BK175.out 0
                            go_wp2_with (first | ((with_reducible refine gate_dst (N := 147) rfl ?_); (try (refine gate_guard (by rfl) ?_; dsimp only)); refine Kd.R_lit k48 _ 48 ?hg (N := 147) ?hd (xs := ([(⟨19, 0, 0⟩ : S48), (⟨105, 5, 0⟩ : S48)] : List (S48))) (inner := [.int .i64 19, .int .i64 0, .int .i64 0, .int .i64 105, .int .i64 5, .int .i64 0]) (ok := fun _ => True) (okp := fun _ => True) ?hr ?hp (fun _ hk => hk) trivial (Below.refl _ _) (Nat.le_refl _) (by simp) ?_; (case hd => rfl); (case hg => rfl); (case hr => first | (go_simp; done) | (go_simp; rfl)); (case hp => exact (Reps.c3 (show Kd.M k48 _ _ _ (⟨19, 0, 0⟩ : S48) [.int .i64 19, .int .i64 0, .int .i64 0] from (k48_mkM _ _ _ (⟨19, 0, 0⟩ : S48) )) (Reps.c3 (show Kd.M k48 _ _ _ (⟨105, 5, 0⟩ : S48) [.int .i64 105, .int .i64 5, .int .i64 0] from (k48_mkM _ _ _ (⟨105, 5, 0⟩ : S48) )) (Reps.none _ _)))); intro v201 w75 ho76 hb hg_ hnew_; clear hg_ hnew_; (first | rw [← Ny200.out] at ho76 | (simp only [Int.reduceToNat] at ho76; rw [← Ny200.out] at ho76)); have n0_ := Aside0.mk (Kd.R_elder' (by (with_reducible repeat (first | apply Kd.R_alloc | apply Kd.R_drewN | apply Kd.R_drew)); exact HO_166000.out) (Kd.R_base ho76) hb); have n1_ := Aside0.mk (Kd.R_elder' (by (with_reducible repeat (first | apply Kd.R_alloc | apply Kd.R_drewN | apply Kd.R_drew)); exact HO_176000.out) (Kd.R_base ho76) hb); have n2_ := Aside0.mk (Kd.R_elder' (by (with_reducible repeat (first | apply Kd.R_alloc | apply Kd.R_drewN | apply Kd.R_drew)); exact HO_182000.out) (Kd.R_base ho76) hb); have n3_ := Aside0.mk (Kd.R_elder' (by (with_reducible repeat (first | apply Kd.R_alloc | apply Kd.R_drewN | apply Kd.R_drew)); exact HO_195000.out) (Kd.R_base ho76) hb); have n4_ := Aside0.mk (Kd.R_lower (Kd.R_new' (Kd.R_new' (Kd.R_new' (Kd.R_new' ho76 (Kd.R_lt (by (with_reducible repeat (first | apply Kd.R_alloc | apply Kd.R_drewN | apply Kd.R_drew)); exact HO_166000.out))) (Kd.R_lt (by (with_reducible repeat (first | apply Kd.R_alloc | apply Kd.R_drewN | apply Kd.R_drew)); exact HO_176000.out))) (Kd.R_lt (by (with_reducible repeat (first | apply Kd.R_alloc | apply Kd.R_drewN | apply Kd.R_drew)); exact HO_182000.out))) (Kd.R_lt (by (with_reducible repeat (first | apply Kd.R_alloc | apply Kd.R_drewN | apply Kd.R_drew)); exact HO_195000.out))) (below_size (by repeat (first | (with_reducible first | exact HB.out | apply below_alloc | apply pw_below_drewN | apply below_drew1 | refine below_set ?_ GE165.out | refine below_set ?_ GE175.out | refine below_set ?_ GE181.out | refine below_set ?_ GE194.out) | exact HB.out)))); have n5_ := Aside0.mk (blk_below (g := gb165) (o := .cells #[.slice Ao14 t162.length co14] 24 (0, 0)) (by (with_reducible repeat (first | refine blk_drewN ?_ _ | refine blk_drew ?_ | refine blk_alloc ?_ _)); exact BK165.out) hb); have n6_ := Aside0.mk (blk_below (g := gb175) (o := .cells #[.slice Ao22 t170.length co22] 24 (0, 0)) (by (with_reducible repeat (first | refine blk_drewN ?_ _ | refine blk_drew ?_ | refine blk_alloc ?_ _)); exact BK175.out) hb); have n7_ := Aside0.mk (blk_below (g := gb181) (o := .cells #[.slice Ao28 t176.length co28] 24 (0, 0)) (by (with_reducible repeat (first | refine blk_drewN ?_ _ | refine blk_drew ?_ | refine blk_alloc ?_ _)); exact BK181.out) hb); have n8_ := Aside0.mk (blk_below (g := gb194) (o := .cells #[.slice Ao41 t190.length co41] 24 (0, 0)) (by (with_reducible repeat (first | refine blk_drewN ?_ _ | refine blk_drew ?_ | refine blk_alloc ?_ _)); exact BK194.out) hb); have n9_ := Aside0.mk (below_step (by repeat (first | (with_reducible first | exact HB.out | apply below_alloc | apply pw_below_drewN | apply below_drew1 | refine below_set ?_ GE165.out | refine below_set ?_ GE175.out | refine below_set ?_ GE181.out | refine below_set ?_ GE194.out) | exact HB.out)) hb); clear HO_166000; clear HO_176000; clear HO_182000; clear HO_195000; clear BK165; clear BK175; clear BK181; clear BK194; clear HB; have HO_166000 := n0_; have HO_176000 := n1_; have HO_182000 := n2_; have HO_195000 := n3_; have HO202 := n4_; have BK165 := n5_; have BK175 := n6_; have BK181 := n7_; have BK194 := n8_; have HB := n9_; clear n0_ n1_ n2_ n3_ n4_ n5_ n6_ n7_ n8_ n9_; clear hb ho76; obtain ⟨Ao77, co77, eo77⟩ := Kd.R_slice HO202.out; subst eo77) | (go_at_call 23; (with_reducible refine (snowlineref02_Same.calls kj10 _ _ t170 _ _ y200 true _ ?side1 ?side2 ?side3 ?side4 A66.out).mono ?_); (case side1 => repeat (first | exact (Kd.R_reads' HO_176000.out).2.2 | (with_reducible refine Kd.C_alloc ?_ _) | (with_reducible refine Kd.C_drewN ?_ _) | (with_reducible refine Kd.C_drew ?_))); (case side2 => exact (Kd.R_reads' HO_176000.out).2.1); (case side3 => repeat (first | exact (Kd.R_reads' HO202.out).2.2 | (with_reducible refine Kd.C_alloc ?_ _) | (with_reducible refine Kd.C_drewN ?_ _) | (with_reducible refine Kd.C_drew ?_))); (case side4 => exact (Kd.R_reads' HO202.out).2.1); rintro e w78 ⟨rfl, hb⟩; have n0_ := Aside0.mk (Kd.R_below (by (with_reducible repeat (first | apply Kd.R_alloc | apply Kd.R_drewN | apply Kd.R_drew)); exact HO_166000.out) hb); have n1_ := Aside0.mk (Kd.R_below (by (with_reducible repeat (first | apply Kd.R_alloc | apply Kd.R_drewN | apply Kd.R_drew)); exact HO_176000.out) hb); have n2_ := Aside0.mk (Kd.R_below (by (with_reducible repeat (first | apply Kd.R_alloc | apply Kd.R_drewN | apply Kd.R_drew)); exact HO_182000.out) hb); have n3_ := Aside0.mk (Kd.R_below (by (with_reducible repeat (first | apply Kd.R_alloc | apply Kd.R_drewN | apply Kd.R_drew)); exact HO_195000.out) hb); have n4_ := Aside0.mk (Kd.R_below (by (with_reducible repeat (first | apply Kd.R_alloc | apply Kd.R_drewN | apply Kd.R_drew)); exact HO202.out) hb); have n5_ := Aside0.mk (blk_below (g := gb165) (o := .cells #[.slice Ao14 t162.length co14] 24 (0, 0)) (by (with_reducible repeat (first | refine blk_drewN ?_ _ | refine blk_drew ?_ | refine blk_alloc ?_ _)); exact BK165.out) hb); have n6_ := Aside0.mk (blk_below (g := gb175) (o := .cells #[.slice Ao22 t170.length co22] 24 (0, 0)) (by (with_reducible repeat (first | refine blk_drewN ?_ _ | refine blk_drew ?_ | refine blk_alloc ?_ _)); exact BK175.out) hb); have n7_ := Aside0.mk (blk_below (g := gb181) (o := .cells #[.slice Ao28 t176.length co28] 24 (0, 0)) (by (with_reducible repeat (first | refine blk_drewN ?_ _ | refine blk_drew ?_ | refine blk_alloc ?_ _)); exact BK181.out) hb); have n8_ := Aside0.mk (blk_below (g := gb194) (o := .cells #[.slice Ao41 t190.length co41] 24 (0, 0)) (by (with_reducible repeat (first | refine blk_drewN ?_ _ | refine blk_drew ?_ | refine blk_alloc ?_ _)); exact BK194.out) hb); have n9_ := Aside0.mk (below_step (by repeat (first | (with_reducible first | exact HB.out | apply below_alloc | apply pw_below_drewN | apply below_drew1 | refine below_set ?_ GE165.out | refine below_set ?_ GE175.out | refine below_set ?_ GE181.out | refine below_set ?_ GE194.out) | exact HB.out)) hb); clear HO_166000; clear HO_176000; clear HO_182000; clear HO_195000; clear HO202; clear BK165; clear BK175; clear BK181; clear BK194; clear HB; have HO_166000 := n0_; have HO_176000 := n1_; have HO_182000 := n2_; have HO_195000 := n3_; have HO202 := n4_; have BK165 := n5_; have BK175 := n6_; have BK181 := n7_; have BK194 := n8_; have HB := n9_; clear n0_ n1_ n2_ n3_ n4_ n5_ n6_ n7_ n8_ n9_; (try clear hb); (try clear hb2); (try clear hk); (try clear hi); have hnb79 := NB181_165.out; have hnc79 := NB165_181.out; have hnb80 := NB181_194.out; have hnc80 := NB194_181.out; have hcz81_0 : w78.cell? ⟨gb181, 0, none⟩ = some (.slice Ao28 t176.length co28) := (blk_cell BK181.out 0).trans rfl; have hfz81_0 := blk_frozen BK181.out 0) | ((with_reducible refine gate_dst (N := 154) rfl ?_); (try (refine gate_guard (by rfl) ?_; dsimp only)); refine Kd.R_lit k48 _ 48 ?hg (N := 154) ?hd (xs := ([(⟨92, 0, 3⟩ : S48)] : List (S48))) (inner := [.int .i64 92, .int .i64 0, .int .i64 3]) (ok := fun _ => True) (okp := fun _ => True) ?hr ?hp (fun _ hk => hk) trivial (Below.refl _ _) (Nat.le_refl _) (by simp) ?_; (case hd => rfl); (case hg => rfl); (case hr => first | (go_simp; done) | (go_simp; rfl)); (case hp => exact (Reps.c3 (show Kd.M k48 _ _ _ (⟨92, 0, 3⟩ : S48) [.int .i64 92, .int .i64 0, .int .i64 3] from (k48_mkM _ _ _ (⟨92, 0, 3⟩ : S48) )) (Reps.none _ _))); intro v205 w82 ho83 hb hg_ hnew_; clear hg_ hnew_; (first | rw [← Ny204.out] at ho83 | (simp only [Int.reduceToNat] at ho83; rw [← Ny204.out] at ho83)); have n0_ := Aside0.mk (Kd.R_elder' (by (with_reducible repeat (first | apply Kd.R_alloc | apply Kd.R_drewN | apply Kd.R_drew)); exact HO_166000.out) (Kd.R_base ho83) hb); have n1_ := Aside0.mk (Kd.R_elder' (by (with_reducible repeat (first | apply Kd.R_alloc | apply Kd.R_drewN | apply Kd.R_drew)); exact HO_176000.out) (Kd.R_base ho83) hb); have n2_ := Aside0.mk (Kd.R_elder' (by (with_reducible repeat (first | apply Kd.R_alloc | apply Kd.R_drewN | apply Kd.R_drew)); exact HO_182000.out) (Kd.R_base ho83) hb); have n3_ := Aside0.mk (Kd.R_elder' (by (with_reducible repeat (first | apply Kd.R_alloc | apply Kd.R_drewN | apply Kd.R_drew)); exact HO_195000.out) (Kd.R_base ho83) hb); have n4_ := Aside0.mk (Kd.R_elder' (by (with_reducible repeat (first | apply Kd.R_alloc | apply Kd.R_drewN | apply Kd.R_drew)); exact HO202.out) (Kd.R_base ho83) hb); have n5_ := Aside0.mk (Kd.R_lower (Kd.R_new' (Kd.R_new' (Kd.R_new' (Kd.R_new' (Kd.R_new' ho83 (Kd.R_lt (by (with_reducible repeat (first | apply Kd.R_alloc | apply Kd.R_drewN | apply Kd.R_drew)); exact HO_166000.out))) (Kd.R_lt (by (with_reducible repeat (first | apply Kd.R_alloc | apply Kd.R_drewN | apply Kd.R_drew)); exact HO_176000.out))) (Kd.R_lt (by (with_reducible repeat (first | apply Kd.R_alloc | apply Kd.R_drewN | apply Kd.R_drew)); exact HO_182000.out))) (Kd.R_lt (by (with_reducible repeat (first | apply Kd.R_alloc | apply Kd.R_drewN | apply Kd.R_drew)); exact HO_195000.out))) (Kd.R_lt (by (with_reducible repeat (first | apply Kd.R_alloc | apply Kd.R_drewN | apply Kd.R_drew)); exact HO202.out))) (below_size (by repeat (first | (with_reducible first | exact HB.out | apply below_alloc | apply pw_below_drewN | apply below_drew1 | refine below_set ?_ GE165.out | refine below_set ?_ GE175.out | refine below_set ?_ GE181.out | refine below_set ?_ GE194.out) | exact HB.out)))); have n6_ := Aside0.mk (blk_below (g := gb165) (o := .cells #[.slice Ao14 t162.length co14] 24 (0, 0)) (by (with_reducible repeat (first | refine blk_drewN ?_ _ | refine blk_drew ?_ | refine blk_alloc ?_ _)); exact BK165.out) hb); have n7_ := Aside0.mk (blk_below (g := gb175) (o := .cells #[.slice Ao22 t170.length co22] 24 (0, 0)) (by (with_reducible repeat (first | refine blk_drewN ?_ _ | refine blk_drew ?_ | refine blk_alloc ?_ _)); exact BK175.out) hb); have n8_ := Aside0.mk (blk_below (g := gb181) (o := .cells #[.slice Ao28 t176.length co28] 24 (0, 0)) (by (with_reducible repeat (first | refine blk_drewN ?_ _ | refine blk_drew ?_ | refine blk_alloc ?_ _)); exact BK181.out) hb); have n9_ := Aside0.mk (blk_below (g := gb194) (o := .cells #[.slice Ao41 t190.length co41] 24 (0, 0)) (by (with_reducible repeat (first | refine blk_drewN ?_ _ | refine blk_drew ?_ | refine blk_alloc ?_ _)); exact BK194.out) hb); have n10_ := Aside0.mk (below_step (by repeat (first | (with_reducible first | exact HB.out | apply below_alloc | apply pw_below_drewN | apply below_drew1 | refine below_set ?_ GE165.out | refine below_set ?_ GE175.out | refine below_set ?_ GE181.out | refine below_set ?_ GE194.out) | exact HB.out)) hb); clear HO_166000; clear HO_176000; clear HO_182000; clear HO_195000; clear HO202; clear BK165; clear BK175; clear BK181; clear BK194; clear HB; have HO_166000 := n0_; have HO_176000 := n1_; have HO_182000 := n2_; have HO_195000 := n3_; have HO202 := n4_; have HO206 := n5_; have BK165 := n6_; have BK175 := n7_; have BK181 := n8_; have BK194 := n9_; have HB := n10_; clear n0_ n1_ n2_ n3_ n4_ n5_ n6_ n7_ n8_ n9_ n10_; clear hb ho83; obtain ⟨Ao84, co84, eo84⟩ := Kd.R_slice HO206.out; subst eo84) | (go_at_call 23; (with_reducible refine (snowlineref02_Same.calls kj10 _ _ t176 _ _ y204 true _ ?side1 ?side2 ?side3 ?side4 A68.out).mono ?_); (case side1 => repeat (first | exact (Kd.R_reads' HO_182000.out).2.2 | (with_reducible refine Kd.C_alloc ?_ _) | (with_reducible refine Kd.C_drewN ?_ _) | (with_reducible refine Kd.C_drew ?_))); (case side2 => exact (Kd.R_reads' HO_182000.out).2.1); (case side3 => repeat (first | exact (Kd.R_reads' HO206.out).2.2 | (with_reducible refine Kd.C_alloc ?_ _) | (with_reducible refine Kd.C_drewN ?_ _) | (with_reducible refine Kd.C_drew ?_))); (case side4 => exact (Kd.R_reads' HO206.out).2.1); rintro e w85 ⟨rfl, hb⟩; have n0_ := Aside0.mk (Kd.R_below (by (with_reducible repeat (first | apply Kd.R_alloc | apply Kd.R_drewN | apply Kd.R_drew)); exact HO_166000.out) hb); have n1_ := Aside0.mk (Kd.R_below (by (with_reducible repeat (first | apply Kd.R_alloc | apply Kd.R_drewN | apply Kd.R_drew)); exact HO_176000.out) hb); have n2_ := Aside0.mk (Kd.R_below (by (with_reducible repeat (first | apply Kd.R_alloc | apply Kd.R_drewN | apply Kd.R_drew)); exact HO_182000.out) hb); have n3_ := Aside0.mk (Kd.R_below (by (with_reducible repeat (first | apply Kd.R_alloc | apply Kd.R_drewN | apply Kd.R_drew)); exact HO_195000.out) hb); have n4_ := Aside0.mk (Kd.R_below (by (with_reducible repeat (first | apply Kd.R_alloc | apply Kd.R_drewN | apply Kd.R_drew)); exact HO202.out) hb); have n5_ := Aside0.mk (Kd.R_below (by (with_reducible repeat (first | apply Kd.R_alloc | apply Kd.R_drewN | apply Kd.R_drew)); exact HO206.out) hb); have n6_ := Aside0.mk (blk_below (g := gb165) (o := .cells #[.slice Ao14 t162.length co14] 24 (0, 0)) (by (with_reducible repeat (first | refine blk_drewN ?_ _ | refine blk_drew ?_ | refine blk_alloc ?_ _)); exact BK165.out) hb); have n7_ := Aside0.mk (blk_below (g := gb175) (o := .cells #[.slice Ao22 t170.length co22] 24 (0, 0)) (by (with_reducible repeat (first | refine blk_drewN ?_ _ | refine blk_drew ?_ | refine blk_alloc ?_ _)); exact BK175.out) hb); have n8_ := Aside0.mk (blk_below (g := gb181) (o := .cells #[.slice Ao28 t176.length co28] 24 (0, 0)) (by (with_reducible repeat (first | refine blk_drewN ?_ _ | refine blk_drew ?_ | refine blk_alloc ?_ _)); exact BK181.out) hb); have n9_ := Aside0.mk (blk_below (g := gb194) (o := .cells #[.slice Ao41 t190.length co41] 24 (0, 0)) (by (with_reducible repeat (first | refine blk_drewN ?_ _ | refine blk_drew ?_ | refine blk_alloc ?_ _)); exact BK194.out) hb); have n10_ := Aside0.mk (below_step (by repeat (first | (with_reducible first | exact HB.out | apply below_alloc | apply pw_below_drewN | apply below_drew1 | refine below_set ?_ GE165.out | refine below_set ?_ GE175.out | refine below_set ?_ GE181.out | refine below_set ?_ GE194.out) | exact HB.out)) hb); clear HO_166000; clear HO_176000; clear HO_182000; clear HO_195000; clear HO202; clear HO206; clear BK165; clear BK175; clear BK181; clear BK194; clear HB; have HO_166000 := n0_; have HO_176000 := n1_; have HO_182000 := n2_; have HO_195000 := n3_; have HO202 := n4_; have HO206 := n5_; have BK165 := n6_; have BK175 := n7_; have BK181 := n8_; have BK194 := n9_; have HB := n10_; clear n0_ n1_ n2_ n3_ n4_ n5_ n6_ n7_ n8_ n9_ n10_; (try clear hb); (try clear hb2); (try clear hk); (try clear hi); have hnb86 := NB194_165.out; have hnc86 := NB165_194.out; have hcz87_0 : w85.cell? ⟨gb194, 0, none⟩ = some (.slice Ao41 t190.length co41) := (blk_cell BK194.out 0).trans rfl; have hfz87_0 := blk_frozen BK194.out 0) | ((with_reducible refine gate_dst (N := 161) rfl ?_); (try (refine gate_guard (by rfl) ?_; dsimp only)); refine Kd.R_lit k48 _ 48 ?hg (N := 161) ?hd (xs := ([(⟨142, 0, 3⟩ : S48)] : List (S48))) (inner := [.int .i64 142, .int .i64 0, .int .i64 3]) (ok := fun _ => True) (okp := fun _ => True) ?hr ?hp (fun _ hk => hk) trivial (Below.refl _ _) (Nat.le_refl _) (by simp) ?_; (case hd => rfl); (case hg => rfl); (case hr => first | (go_simp; done) | (go_simp; rfl)); (case hp => exact (Reps.c3 (show Kd.M k48 _ _ _ (⟨142, 0, 3⟩ : S48) [.int .i64 142, .int .i64 0, .int .i64 3] from (k48_mkM _ _ _ (⟨142, 0, 3⟩ : S48) )) (Reps.none _ _))); intro v209 w88 ho89 hb hg_ hnew_; clear hg_ hnew_; (first | rw [← Ny208.out] at ho89 | (simp only [Int.reduceToNat] at ho89; rw [← Ny208.out] at ho89)); have n0_ := Aside0.mk (Kd.R_elder' (by (with_reducible repeat (first | apply Kd.R_alloc | apply Kd.R_drewN | apply Kd.R_drew)); exact HO_166000.out) (Kd.R_base ho89) hb); have n1_ := Aside0.mk (Kd.R_elder' (by (with_reducible repeat (first | apply Kd.R_alloc | apply Kd.R_drewN | apply Kd.R_drew)); exact HO_176000.out) (Kd.R_base ho89) hb); have n2_ := Aside0.mk (Kd.R_elder' (by (with_reducible repeat (first | apply Kd.R_alloc | apply Kd.R_drewN | apply Kd.R_drew)); exact HO_182000.out) (Kd.R_base ho89) hb); have n3_ := Aside0.mk (Kd.R_elder' (by (with_reducible repeat (first | apply Kd.R_alloc | apply Kd.R_drewN | apply Kd.R_drew)); exact HO_195000.out) (Kd.R_base ho89) hb); have n4_ := Aside0.mk (Kd.R_elder' (by (with_reducible repeat (first | apply Kd.R_alloc | apply Kd.R_drewN | apply Kd.R_drew)); exact HO202.out) (Kd.R_base ho89) hb); have n5_ := Aside0.mk (Kd.R_elder' (by (with_reducible repeat (first | apply Kd.R_alloc | apply Kd.R_drewN | apply Kd.R_drew)); exact HO206.out) (Kd.R_base ho89) hb); have n6_ := Aside0.mk (Kd.R_lower (Kd.R_new' (Kd.R_new' (Kd.R_new' (Kd.R_new' (Kd.R_new' (Kd.R_new' ho89 (Kd.R_lt (by (with_reducible repeat (first | apply Kd.R_alloc | apply Kd.R_drewN | apply Kd.R_drew)); exact HO_166000.out))) (Kd.R_lt (by (with_reducible repeat (first | apply Kd.R_alloc | apply Kd.R_drewN | apply Kd.R_drew)); exact HO_176000.out))) (Kd.R_lt (by (with_reducible repeat (first | apply Kd.R_alloc | apply Kd.R_drewN | apply Kd.R_drew)); exact HO_182000.out))) (Kd.R_lt (by (with_reducible repeat (first | apply Kd.R_alloc | apply Kd.R_drewN | apply Kd.R_drew)); exact HO_195000.out))) (Kd.R_lt (by (with_reducible repeat (first | apply Kd.R_alloc | apply Kd.R_drewN | apply Kd.R_drew)); exact HO202.out))) (Kd.R_lt (by (with_reducible repeat (first | apply Kd.R_alloc | apply Kd.R_drewN | apply Kd.R_drew)); exact HO206.out))) (below_size (by repeat (first | (with_reducible first | exact HB.out | apply below_alloc | apply pw_below_drewN | apply below_drew1 | refine below_set ?_ GE165.out | refine below_set ?_ GE175.out | refine below_set ?_ GE181.out | refine below_set ?_ GE194.out) | exact HB.out)))); have n7_ := Aside0.mk (blk_below (g := gb165) (o := .cells #[.slice Ao14 t162.length co14] 24 (0, 0)) (by (with_reducible repeat (first | refine blk_drewN ?_ _ | refine blk_drew ?_ | refine blk_alloc ?_ _)); exact BK165.out) hb); have n8_ := Aside0.mk (blk_below (g := gb175) (o := .cells #[.slice Ao22 t170.length co22] 24 (0, 0)) (by (with_reducible repeat (first | refine blk_drewN ?_ _ | refine blk_drew ?_ | refine blk_alloc ?_ _)); exact BK175.out) hb); have n9_ := Aside0.mk (blk_below (g := gb181) (o := .cells #[.slice Ao28 t176.length co28] 24 (0, 0)) (by (with_reducible repeat (first | refine blk_drewN ?_ _ | refine blk_drew ?_ | refine blk_alloc ?_ _)); exact BK181.out) hb); have n10_ := Aside0.mk (blk_below (g := gb194) (o := .cells #[.slice Ao41 t190.length co41] 24 (0, 0)) (by (with_reducible repeat (first | refine blk_drewN ?_ _ | refine blk_drew ?_ | refine blk_alloc ?_ _)); exact BK194.out) hb); have n11_ := Aside0.mk (below_step (by repeat (first | (with_reducible first | exact HB.out | apply below_alloc | apply pw_below_drewN | apply below_drew1 | refine below_set ?_ GE165.out | refine below_set ?_ GE175.out | refine below_set ?_ GE181.out | refine below_set ?_ GE194.out) | exact HB.out)) hb); clear HO_166000; clear HO_176000; clear HO_182000; clear HO_195000; clear HO202; clear HO206; clear BK165; clear BK175; clear BK181; clear BK194; clear HB; have HO_166000 := n0_; have HO_176000 := n1_; have HO_182000 := n2_; have HO_195000 := n3_; have HO202 := n4_; have HO206 := n5_; have HO210 := n6_; have BK165 := n7_; have BK175 := n8_; have BK181 := n9_; have BK194 := n10_; have HB := n11_; clear n0_ n1_ n2_ n3_ n4_ n5_ n6_ n7_ n8_ n9_ n10_ n11_; clear hb ho89; obtain ⟨Ao90, co90, eo90⟩ := Kd.R_slice HO210.out; subst eo90) | (go_at_call 23; (with_reducible refine (snowlineref02_Same.calls kj10 _ _ t190 _ _ y208 t211 _ ?side1 ?side2 ?side3 ?side4 A70.out).mono ?_); (case side1 => repeat (first | exact (Kd.R_reads' HO_195000.out).2.2 | (with_reducible refine Kd.C_alloc ?_ _) | (with_reducible refine Kd.C_drewN ?_ _) | (with_reducible refine Kd.C_drew ?_))); (case side2 => exact (Kd.R_reads' HO_195000.out).2.1); (case side3 => repeat (first | exact (Kd.R_reads' HO210.out).2.2 | (with_reducible refine Kd.C_alloc ?_ _) | (with_reducible refine Kd.C_drewN ?_ _) | (with_reducible refine Kd.C_drew ?_))); (case side4 => exact (Kd.R_reads' HO210.out).2.1); rintro e w91 ⟨rfl, hb⟩; have n0_ := Aside0.mk (Kd.R_below (by (with_reducible repeat (first | apply Kd.R_alloc | apply Kd.R_drewN | apply Kd.R_drew)); exact HO_166000.out) hb); have n1_ := Aside0.mk (Kd.R_below (by (with_reducible repeat (first | apply Kd.R_alloc | apply Kd.R_drewN | apply Kd.R_drew)); exact HO_176000.out) hb); have n2_ := Aside0.mk (Kd.R_below (by (with_reducible repeat (first | apply Kd.R_alloc | apply Kd.R_drewN | apply Kd.R_drew)); exact HO_182000.out) hb); have n3_ := Aside0.mk (Kd.R_below (by (with_reducible repeat (first | apply Kd.R_alloc | apply Kd.R_drewN | apply Kd.R_drew)); exact HO_195000.out) hb); have n4_ := Aside0.mk (Kd.R_below (by (with_reducible repeat (first | apply Kd.R_alloc | apply Kd.R_drewN | apply Kd.R_drew)); exact HO202.out) hb); have n5_ := Aside0.mk (Kd.R_below (by (with_reducible repeat (first | apply Kd.R_alloc | apply Kd.R_drewN | apply Kd.R_drew)); exact HO206.out) hb); have n6_ := Aside0.mk (Kd.R_below (by (with_reducible repeat (first | apply Kd.R_alloc | apply Kd.R_drewN | apply Kd.R_drew)); exact HO210.out) hb); have n7_ := Aside0.mk (blk_below (g := gb165) (o := .cells #[.slice Ao14 t162.length co14] 24 (0, 0)) (by (with_reducible repeat (first | refine blk_drewN ?_ _ | refine blk_drew ?_ | refine blk_alloc ?_ _)); exact BK165.out) hb); have n8_ := Aside0.mk (blk_below (g := gb175) (o := .cells #[.slice Ao22 t170.length co22] 24 (0, 0)) (by (with_reducible repeat (first | refine blk_drewN ?_ _ | refine blk_drew ?_ | refine blk_alloc ?_ _)); exact BK175.out) hb); have n9_ := Aside0.mk (blk_below (g := gb181) (o := .cells #[.slice Ao28 t176.length co28] 24 (0, 0)) (by (with_reducible repeat (first | refine blk_drewN ?_ _ | refine blk_drew ?_ | refine blk_alloc ?_ _)); exact BK181.out) hb); have n10_ := Aside0.mk (blk_below (g := gb194) (o := .cells #[.slice Ao41 t190.length co41] 24 (0, 0)) (by (with_reducible repeat (first | refine blk_drewN ?_ _ | refine blk_drew ?_ | refine blk_alloc ?_ _)); exact BK194.out) hb); have n11_ := Aside0.mk (below_step (by repeat (first | (with_reducible first | exact HB.out | apply below_alloc | apply pw_below_drewN | apply below_drew1 | refine below_set ?_ GE165.out | refine below_set ?_ GE175.out | refine below_set ?_ GE181.out | refine below_set ?_ GE194.out) | exact HB.out)) hb); clear HO_166000; clear HO_176000; clear HO_182000; clear HO_195000; clear HO202; clear HO206; clear HO210; clear BK165; clear BK175; clear BK181; clear BK194; clear HB; have HO_166000 := n0_; have HO_176000 := n1_; have HO_182000 := n2_; have HO_195000 := n3_; have HO202 := n4_; have HO206 := n5_; have HO210 := n6_; have BK165 := n7_; have BK175 := n8_; have BK181 := n9_; have BK194 := n10_; have HB := n11_; clear n0_ n1_ n2_ n3_ n4_ n5_ n6_ n7_ n8_ n9_ n10_ n11_; (try clear hb); (try clear hb2); (try clear hk); (try clear hi)))
                            go_ret
                            exact ⟨by first | rfl | (simp [errW_none, errW_some] <;> rfl) | (simp [*, errW_none, errW_some] <;> rfl), by repeat (first | (with_reducible first | exact HB.out | apply below_alloc | apply pw_below_drewN | apply below_drew1 | refine below_set ?_ GE165.out | refine below_set ?_ GE175.out | refine below_set ?_ GE181.out | refine below_set ?_ GE194.out) | exact HB.out)⟩
                          · replace c69 := Bool.eq_false_iff.mpr c69
                            subst c69
                            have H1 : (some false) = some r := by rw [if_neg (show ¬ (false = true) by decide)] at H; exact H
                            clear H
                            have H := H1
                            clear H1
                            obtain rfl := Option.some.inj H
                            have hnb92 := NB175_165.out
                            have hnc92 := NB165_175.out
                            have hnb93 := NB175_181.out
                            have hnc93 := NB181_175.out
                            have hnb94 := NB175_194.out
                            have hnc94 := NB194_175.out
                            have hcz95_0 : wc.cell? ⟨gb175, 0, none⟩ = some (.slice Ao22 t170.length co22) := (blk_cell BK175.out 0).trans rfl
                            have hfz95_0 := blk_frozen BK175.out 0
                            go_wp2_with (first | ((with_reducible refine gate_dst (N := 147) rfl ?_); (try (refine gate_guard (by rfl) ?_; dsimp only)); refine Kd.R_lit k48 _ 48 ?hg (N := 147) ?hd (xs := ([(⟨19, 0, 0⟩ : S48), (⟨105, 5, 0⟩ : S48)] : List (S48))) (inner := [.int .i64 19, .int .i64 0, .int .i64 0, .int .i64 105, .int .i64 5, .int .i64 0]) (ok := fun _ => True) (okp := fun _ => True) ?hr ?hp (fun _ hk => hk) trivial (Below.refl _ _) (Nat.le_refl _) (by simp) ?_; (case hd => rfl); (case hg => rfl); (case hr => first | (go_simp; done) | (go_simp; rfl)); (case hp => exact (Reps.c3 (show Kd.M k48 _ _ _ (⟨19, 0, 0⟩ : S48) [.int .i64 19, .int .i64 0, .int .i64 0] from (k48_mkM _ _ _ (⟨19, 0, 0⟩ : S48) )) (Reps.c3 (show Kd.M k48 _ _ _ (⟨105, 5, 0⟩ : S48) [.int .i64 105, .int .i64 5, .int .i64 0] from (k48_mkM _ _ _ (⟨105, 5, 0⟩ : S48) )) (Reps.none _ _)))); intro v201 w96 ho97 hb hg_ hnew_; clear hg_ hnew_; (first | rw [← Ny200.out] at ho97 | (simp only [Int.reduceToNat] at ho97; rw [← Ny200.out] at ho97)); have n0_ := Aside0.mk (Kd.R_elder' (by (with_reducible repeat (first | apply Kd.R_alloc | apply Kd.R_drewN | apply Kd.R_drew)); exact HO_166000.out) (Kd.R_base ho97) hb); have n1_ := Aside0.mk (Kd.R_elder' (by (with_reducible repeat (first | apply Kd.R_alloc | apply Kd.R_drewN | apply Kd.R_drew)); exact HO_176000.out) (Kd.R_base ho97) hb); have n2_ := Aside0.mk (Kd.R_elder' (by (with_reducible repeat (first | apply Kd.R_alloc | apply Kd.R_drewN | apply Kd.R_drew)); exact HO_182000.out) (Kd.R_base ho97) hb); have n3_ := Aside0.mk (Kd.R_elder' (by (with_reducible repeat (first | apply Kd.R_alloc | apply Kd.R_drewN | apply Kd.R_drew)); exact HO_195000.out) (Kd.R_base ho97) hb); have n4_ := Aside0.mk (Kd.R_lower (Kd.R_new' (Kd.R_new' (Kd.R_new' (Kd.R_new' ho97 (Kd.R_lt (by (with_reducible repeat (first | apply Kd.R_alloc | apply Kd.R_drewN | apply Kd.R_drew)); exact HO_166000.out))) (Kd.R_lt (by (with_reducible repeat (first | apply Kd.R_alloc | apply Kd.R_drewN | apply Kd.R_drew)); exact HO_176000.out))) (Kd.R_lt (by (with_reducible repeat (first | apply Kd.R_alloc | apply Kd.R_drewN | apply Kd.R_drew)); exact HO_182000.out))) (Kd.R_lt (by (with_reducible repeat (first | apply Kd.R_alloc | apply Kd.R_drewN | apply Kd.R_drew)); exact HO_195000.out))) (below_size (by repeat (first | (with_reducible first | exact HB.out | apply below_alloc | apply pw_below_drewN | apply below_drew1 | refine below_set ?_ GE165.out | refine below_set ?_ GE175.out | refine below_set ?_ GE181.out | refine below_set ?_ GE194.out) | exact HB.out)))); have n5_ := Aside0.mk (blk_below (g := gb165) (o := .cells #[.slice Ao14 t162.length co14] 24 (0, 0)) (by (with_reducible repeat (first | refine blk_drewN ?_ _ | refine blk_drew ?_ | refine blk_alloc ?_ _)); exact BK165.out) hb); have n6_ := Aside0.mk (blk_below (g := gb175) (o := .cells #[.slice Ao22 t170.length co22] 24 (0, 0)) (by (with_reducible repeat (first | refine blk_drewN ?_ _ | refine blk_drew ?_ | refine blk_alloc ?_ _)); exact BK175.out) hb); have n7_ := Aside0.mk (blk_below (g := gb181) (o := .cells #[.slice Ao28 t176.length co28] 24 (0, 0)) (by (with_reducible repeat (first | refine blk_drewN ?_ _ | refine blk_drew ?_ | refine blk_alloc ?_ _)); exact BK181.out) hb); have n8_ := Aside0.mk (blk_below (g := gb194) (o := .cells #[.slice Ao41 t190.length co41] 24 (0, 0)) (by (with_reducible repeat (first | refine blk_drewN ?_ _ | refine blk_drew ?_ | refine blk_alloc ?_ _)); exact BK194.out) hb); have n9_ := Aside0.mk (below_step (by repeat (first | (with_reducible first | exact HB.out | apply below_alloc | apply pw_below_drewN | apply below_drew1 | refine below_set ?_ GE165.out | refine below_set ?_ GE175.out | refine below_set ?_ GE181.out | refine below_set ?_ GE194.out) | exact HB.out)) hb); clear HO_166000; clear HO_176000; clear HO_182000; clear HO_195000; clear BK165; clear BK175; clear BK181; clear BK194; clear HB; have HO_166000 := n0_; have HO_176000 := n1_; have HO_182000 := n2_; have HO_195000 := n3_; have HO202 := n4_; have BK165 := n5_; have BK175 := n6_; have BK181 := n7_; have BK194 := n8_; have HB := n9_; clear n0_ n1_ n2_ n3_ n4_ n5_ n6_ n7_ n8_ n9_; clear hb ho97; obtain ⟨Ao98, co98, eo98⟩ := Kd.R_slice HO202.out; subst eo98) | (go_at_call 23; (with_reducible refine (snowlineref02_Same.calls kj10 _ _ t170 _ _ y200 true _ ?side1 ?side2 ?side3 ?side4 A66.out).mono ?_); (case side1 => repeat (first | exact (Kd.R_reads' HO_176000.out).2.2 | (with_reducible refine Kd.C_alloc ?_ _) | (with_reducible refine Kd.C_drewN ?_ _) | (with_reducible refine Kd.C_drew ?_))); (case side2 => exact (Kd.R_reads' HO_176000.out).2.1); (case side3 => repeat (first | exact (Kd.R_reads' HO202.out).2.2 | (with_reducible refine Kd.C_alloc ?_ _) | (with_reducible refine Kd.C_drewN ?_ _) | (with_reducible refine Kd.C_drew ?_))); (case side4 => exact (Kd.R_reads' HO202.out).2.1); rintro e w99 ⟨rfl, hb⟩; have n0_ := Aside0.mk (Kd.R_below (by (with_reducible repeat (first | apply Kd.R_alloc | apply Kd.R_drewN | apply Kd.R_drew)); exact HO_166000.out) hb); have n1_ := Aside0.mk (Kd.R_below (by (with_reducible repeat (first | apply Kd.R_alloc | apply Kd.R_drewN | apply Kd.R_drew)); exact HO_176000.out) hb); have n2_ := Aside0.mk (Kd.R_below (by (with_reducible repeat (first | apply Kd.R_alloc | apply Kd.R_drewN | apply Kd.R_drew)); exact HO_182000.out) hb); have n3_ := Aside0.mk (Kd.R_below (by (with_reducible repeat (first | apply Kd.R_alloc | apply Kd.R_drewN | apply Kd.R_drew)); exact HO_195000.out) hb); have n4_ := Aside0.mk (Kd.R_below (by (with_reducible repeat (first | apply Kd.R_alloc | apply Kd.R_drewN | apply Kd.R_drew)); exact HO202.out) hb); have n5_ := Aside0.mk (blk_below (g := gb165) (o := .cells #[.slice Ao14 t162.length co14] 24 (0, 0)) (by (with_reducible repeat (first | refine blk_drewN ?_ _ | refine blk_drew ?_ | refine blk_alloc ?_ _)); exact BK165.out) hb); have n6_ := Aside0.mk (blk_below (g := gb175) (o := .cells #[.slice Ao22 t170.length co22] 24 (0, 0)) (by (with_reducible repeat (first | refine blk_drewN ?_ _ | refine blk_drew ?_ | refine blk_alloc ?_ _)); exact BK175.out) hb); have n7_ := Aside0.mk (blk_below (g := gb181) (o := .cells #[.slice Ao28 t176.length co28] 24 (0, 0)) (by (with_reducible repeat (first | refine blk_drewN ?_ _ | refine blk_drew ?_ | refine blk_alloc ?_ _)); exact BK181.out) hb); have n8_ := Aside0.mk (blk_below (g := gb194) (o := .cells #[.slice Ao41 t190.length co41] 24 (0, 0)) (by (with_reducible repeat (first | refine blk_drewN ?_ _ | refine blk_drew ?_ | refine blk_alloc ?_ _)); exact BK194.out) hb); have n9_ := Aside0.mk (below_step (by repeat (first | (with_reducible first | exact HB.out | apply below_alloc | apply pw_below_drewN | apply below_drew1 | refine below_set ?_ GE165.out | refine below_set ?_ GE175.out | refine below_set ?_ GE181.out | refine below_set ?_ GE194.out) | exact HB.out)) hb); clear HO_166000; clear HO_176000; clear HO_182000; clear HO_195000; clear HO202; clear BK165; clear BK175; clear BK181; clear BK194; clear HB; have HO_166000 := n0_; have HO_176000 := n1_; have HO_182000 := n2_; have HO_195000 := n3_; have HO202 := n4_; have BK165 := n5_; have BK175 := n6_; have BK181 := n7_; have BK194 := n8_; have HB := n9_; clear n0_ n1_ n2_ n3_ n4_ n5_ n6_ n7_ n8_ n9_; (try clear hb); (try clear hb2); (try clear hk); (try clear hi); have hnb100 := NB181_165.out; have hnc100 := NB165_181.out; have hnb101 := NB181_194.out; have hnc101 := NB194_181.out; have hcz102_0 : w99.cell? ⟨gb181, 0, none⟩ = some (.slice Ao28 t176.length co28) := (blk_cell BK181.out 0).trans rfl; have hfz102_0 := blk_frozen BK181.out 0) | ((with_reducible refine gate_dst (N := 154) rfl ?_); (try (refine gate_guard (by rfl) ?_; dsimp only)); refine Kd.R_lit k48 _ 48 ?hg (N := 154) ?hd (xs := ([(⟨92, 0, 3⟩ : S48)] : List (S48))) (inner := [.int .i64 92, .int .i64 0, .int .i64 3]) (ok := fun _ => True) (okp := fun _ => True) ?hr ?hp (fun _ hk => hk) trivial (Below.refl _ _) (Nat.le_refl _) (by simp) ?_; (case hd => rfl); (case hg => rfl); (case hr => first | (go_simp; done) | (go_simp; rfl)); (case hp => exact (Reps.c3 (show Kd.M k48 _ _ _ (⟨92, 0, 3⟩ : S48) [.int .i64 92, .int .i64 0, .int .i64 3] from (k48_mkM _ _ _ (⟨92, 0, 3⟩ : S48) )) (Reps.none _ _))); intro v205 w103 ho104 hb hg_ hnew_; clear hg_ hnew_; (first | rw [← Ny204.out] at ho104 | (simp only [Int.reduceToNat] at ho104; rw [← Ny204.out] at ho104)); have n0_ := Aside0.mk (Kd.R_elder' (by (with_reducible repeat (first | apply Kd.R_alloc | apply Kd.R_drewN | apply Kd.R_drew)); exact HO_166000.out) (Kd.R_base ho104) hb); have n1_ := Aside0.mk (Kd.R_elder' (by (with_reducible repeat (first | apply Kd.R_alloc | apply Kd.R_drewN | apply Kd.R_drew)); exact HO_176000.out) (Kd.R_base ho104) hb); have n2_ := Aside0.mk (Kd.R_elder' (by (with_reducible repeat (first | apply Kd.R_alloc | apply Kd.R_drewN | apply Kd.R_drew)); exact HO_182000.out) (Kd.R_base ho104) hb); have n3_ := Aside0.mk (Kd.R_elder' (by (with_reducible repeat (first | apply Kd.R_alloc | apply Kd.R_drewN | apply Kd.R_drew)); exact HO_195000.out) (Kd.R_base ho104) hb); have n4_ := Aside0.mk (Kd.R_elder' (by (with_reducible repeat (first | apply Kd.R_alloc | apply Kd.R_drewN | apply Kd.R_drew)); exact HO202.out) (Kd.R_base ho104) hb); have n5_ := Aside0.mk (Kd.R_lower (Kd.R_new' (Kd.R_new' (Kd.R_new' (Kd.R_new' (Kd.R_new' ho104 (Kd.R_lt (by (with_reducible repeat (first | apply Kd.R_alloc | apply Kd.R_drewN | apply Kd.R_drew)); exact HO_166000.out))) (Kd.R_lt (by (with_reducible repeat (first | apply Kd.R_alloc | apply Kd.R_drewN | apply Kd.R_drew)); exact HO_176000.out))) (Kd.R_lt (by (with_reducible repeat (first | apply Kd.R_alloc | apply Kd.R_drewN | apply Kd.R_drew)); exact HO_182000.out))) (Kd.R_lt (by (with_reducible repeat (first | apply Kd.R_alloc | apply Kd.R_drewN | apply Kd.R_drew)); exact HO_195000.out))) (Kd.R_lt (by (with_reducible repeat (first | apply Kd.R_alloc | apply Kd.R_drewN | apply Kd.R_drew)); exact HO202.out))) (below_size (by repeat (first | (with_reducible first | exact HB.out | apply below_alloc | apply pw_below_drewN | apply below_drew1 | refine below_set ?_ GE165.out | refine below_set ?_ GE175.out | refine below_set ?_ GE181.out | refine below_set ?_ GE194.out) | exact HB.out)))); have n6_ := Aside0.mk (blk_below (g := gb165) (o := .cells #[.slice Ao14 t162.length co14] 24 (0, 0)) (by (with_reducible repeat (first | refine blk_drewN ?_ _ | refine blk_drew ?_ | refine blk_alloc ?_ _)); exact BK165.out) hb); have n7_ := Aside0.mk (blk_below (g := gb175) (o := .cells #[.slice Ao22 t170.length co22] 24 (0, 0)) (by (with_reducible repeat (first | refine blk_drewN ?_ _ | refine blk_drew ?_ | refine blk_alloc ?_ _)); exact BK175.out) hb); have n8_ := Aside0.mk (blk_below (g := gb181) (o := .cells #[.slice Ao28 t176.length co28] 24 (0, 0)) (by (with_reducible repeat (first | refine blk_drewN ?_ _ | refine blk_drew ?_ | refine blk_alloc ?_ _)); exact BK181.out) hb); have n9_ := Aside0.mk (blk_below (g := gb194) (o := .cells #[.slice Ao41 t190.length co41] 24 (0, 0)) (by (with_reducible repeat (first | refine blk_drewN ?_ _ | refine blk_drew ?_ | refine blk_alloc ?_ _)); exact BK194.out) hb); have n10_ := Aside0.mk (below_step (by repeat (first | (with_reducible first | exact HB.out | apply below_alloc | apply pw_below_drewN | apply below_drew1 | refine below_set ?_ GE165.out | refine below_set ?_ GE175.out | refine below_set ?_ GE181.out | refine below_set ?_ GE194.out) | exact HB.out)) hb); clear HO_166000; clear HO_176000; clear HO_182000; clear HO_195000; clear HO202; clear BK165; clear BK175; clear BK181; clear BK194; clear HB; have HO_166000 := n0_; have HO_176000 := n1_; have HO_182000 := n2_; have HO_195000 := n3_; have HO202 := n4_; have HO206 := n5_; have BK165 := n6_; have BK175 := n7_; have BK181 := n8_; have BK194 := n9_; have HB := n10_; clear n0_ n1_ n2_ n3_ n4_ n5_ n6_ n7_ n8_ n9_ n10_; clear hb ho104; obtain ⟨Ao105, co105, eo105⟩ := Kd.R_slice HO206.out; subst eo105) | (go_at_call 23; (with_reducible refine (snowlineref02_Same.calls kj10 _ _ t176 _ _ y204 false _ ?side1 ?side2 ?side3 ?side4 A68.out).mono ?_); (case side1 => repeat (first | exact (Kd.R_reads' HO_182000.out).2.2 | (with_reducible refine Kd.C_alloc ?_ _) | (with_reducible refine Kd.C_drewN ?_ _) | (with_reducible refine Kd.C_drew ?_))); (case side2 => exact (Kd.R_reads' HO_182000.out).2.1); (case side3 => repeat (first | exact (Kd.R_reads' HO206.out).2.2 | (with_reducible refine Kd.C_alloc ?_ _) | (with_reducible refine Kd.C_drewN ?_ _) | (with_reducible refine Kd.C_drew ?_))); (case side4 => exact (Kd.R_reads' HO206.out).2.1); rintro e w106 ⟨rfl, hb⟩; have n0_ := Aside0.mk (Kd.R_below (by (with_reducible repeat (first | apply Kd.R_alloc | apply Kd.R_drewN | apply Kd.R_drew)); exact HO_166000.out) hb); have n1_ := Aside0.mk (Kd.R_below (by (with_reducible repeat (first | apply Kd.R_alloc | apply Kd.R_drewN | apply Kd.R_drew)); exact HO_176000.out) hb); have n2_ := Aside0.mk (Kd.R_below (by (with_reducible repeat (first | apply Kd.R_alloc | apply Kd.R_drewN | apply Kd.R_drew)); exact HO_182000.out) hb); have n3_ := Aside0.mk (Kd.R_below (by (with_reducible repeat (first | apply Kd.R_alloc | apply Kd.R_drewN | apply Kd.R_drew)); exact HO_195000.out) hb); have n4_ := Aside0.mk (Kd.R_below (by (with_reducible repeat (first | apply Kd.R_alloc | apply Kd.R_drewN | apply Kd.R_drew)); exact HO202.out) hb); have n5_ := Aside0.mk (Kd.R_below (by (with_reducible repeat (first | apply Kd.R_alloc | apply Kd.R_drewN | apply Kd.R_drew)); exact HO206.out) hb); have n6_ := Aside0.mk (blk_below (g := gb165) (o := .cells #[.slice Ao14 t162.length co14] 24 (0, 0)) (by (with_reducible repeat (first | refine blk_drewN ?_ _ | refine blk_drew ?_ | refine blk_alloc ?_ _)); exact BK165.out) hb); have n7_ := Aside0.mk (blk_below (g := gb175) (o := .cells #[.slice Ao22 t170.length co22] 24 (0, 0)) (by (with_reducible repeat (first | refine blk_drewN ?_ _ | refine blk_drew ?_ | refine blk_alloc ?_ _)); exact BK175.out) hb); have n8_ := Aside0.mk (blk_below (g := gb181) (o := .cells #[.slice Ao28 t176.length co28] 24 (0, 0)) (by (with_reducible repeat (first | refine blk_drewN ?_ _ | refine blk_drew ?_ | refine blk_alloc ?_ _)); exact BK181.out) hb); have n9_ := Aside0.mk (blk_below (g := gb194) (o := .cells #[.slice Ao41 t190.length co41] 24 (0, 0)) (by (with_reducible repeat (first | refine blk_drewN ?_ _ | refine blk_drew ?_ | refine blk_alloc ?_ _)); exact BK194.out) hb); have n10_ := Aside0.mk (below_step (by repeat (first | (with_reducible first | exact HB.out | apply below_alloc | apply pw_below_drewN | apply below_drew1 | refine below_set ?_ GE165.out | refine below_set ?_ GE175.out | refine below_set ?_ GE181.out | refine below_set ?_ GE194.out) | exact HB.out)) hb); clear HO_166000; clear HO_176000; clear HO_182000; clear HO_195000; clear HO202; clear HO206; clear BK165; clear BK175; clear BK181; clear BK194; clear HB; have HO_166000 := n0_; have HO_176000 := n1_; have HO_182000 := n2_; have HO_195000 := n3_; have HO202 := n4_; have HO206 := n5_; have BK165 := n6_; have BK175 := n7_; have BK181 := n8_; have BK194 := n9_; have HB := n10_; clear n0_ n1_ n2_ n3_ n4_ n5_ n6_ n7_ n8_ n9_ n10_; (try clear hb); (try clear hb2); (try clear hk); (try clear hi)))
                            go_ret
                            exact ⟨by first | rfl | (simp [errW_none, errW_some] <;> rfl) | (simp [*, errW_none, errW_some] <;> rfl), by repeat (first | (with_reducible first | exact HB.out | apply below_alloc | apply pw_below_drewN | apply below_drew1 | refine below_set ?_ GE165.out | refine below_set ?_ GE175.out | refine below_set ?_ GE181.out | refine below_set ?_ GE194.out) | exact HB.out)⟩
                        · replace c67 := Bool.eq_false_iff.mpr c67
                          subst c67
                          have H1 : (some false) = some r := by rw [if_neg (show ¬ (false = true) by decide)] at H; exact H
                          clear H
                          have H := H1
                          clear H1
                          obtain rfl := Option.some.inj H
                          have hnb107 := NB175_165.out
                          have hnc107 := NB165_175.out
                          have hnb108 := NB175_181.out
                          have hnc108 := NB181_175.out
                          have hnb109 := NB175_194.out
                          have hnc109 := NB194_175.out
                          have hcz110_0 : wc.cell? ⟨gb175, 0, none⟩ = some (.slice Ao22 t170.length co22) := (blk_cell BK175.out 0).trans rfl
                          have hfz110_0 := blk_frozen BK175.out 0
                          go_wp2_with (first | ((with_reducible refine gate_dst (N := 147) rfl ?_); (try (refine gate_guard (by rfl) ?_; dsimp only)); refine Kd.R_lit k48 _ 48 ?hg (N := 147) ?hd (xs := ([(⟨19, 0, 0⟩ : S48), (⟨105, 5, 0⟩ : S48)] : List (S48))) (inner := [.int .i64 19, .int .i64 0, .int .i64 0, .int .i64 105, .int .i64 5, .int .i64 0]) (ok := fun _ => True) (okp := fun _ => True) ?hr ?hp (fun _ hk => hk) trivial (Below.refl _ _) (Nat.le_refl _) (by simp) ?_; (case hd => rfl); (case hg => rfl); (case hr => first | (go_simp; done) | (go_simp; rfl)); (case hp => exact (Reps.c3 (show Kd.M k48 _ _ _ (⟨19, 0, 0⟩ : S48) [.int .i64 19, .int .i64 0, .int .i64 0] from (k48_mkM _ _ _ (⟨19, 0, 0⟩ : S48) )) (Reps.c3 (show Kd.M k48 _ _ _ (⟨105, 5, 0⟩ : S48) [.int .i64 105, .int .i64 5, .int .i64 0] from (k48_mkM _ _ _ (⟨105, 5, 0⟩ : S48) )) (Reps.none _ _)))); intro v201 w111 ho112 hb hg_ hnew_; clear hg_ hnew_; (first | rw [← Ny200.out] at ho112 | (simp only [Int.reduceToNat] at ho112; rw [← Ny200.out] at ho112)); have n0_ := Aside0.mk (Kd.R_elder' (by (with_reducible repeat (first | apply Kd.R_alloc | apply Kd.R_drewN | apply Kd.R_drew)); exact HO_166000.out) (Kd.R_base ho112) hb); have n1_ := Aside0.mk (Kd.R_elder' (by (with_reducible repeat (first | apply Kd.R_alloc | apply Kd.R_drewN | apply Kd.R_drew)); exact HO_176000.out) (Kd.R_base ho112) hb); have n2_ := Aside0.mk (Kd.R_elder' (by (with_reducible repeat (first | apply Kd.R_alloc | apply Kd.R_drewN | apply Kd.R_drew)); exact HO_182000.out) (Kd.R_base ho112) hb); have n3_ := Aside0.mk (Kd.R_elder' (by (with_reducible repeat (first | apply Kd.R_alloc | apply Kd.R_drewN | apply Kd.R_drew)); exact HO_195000.out) (Kd.R_base ho112) hb); have n4_ := Aside0.mk (Kd.R_lower (Kd.R_new' (Kd.R_new' (Kd.R_new' (Kd.R_new' ho112 (Kd.R_lt (by (with_reducible repeat (first | apply Kd.R_alloc | apply Kd.R_drewN | apply Kd.R_drew)); exact HO_166000.out))) (Kd.R_lt (by (with_reducible repeat (first | apply Kd.R_alloc | apply Kd.R_drewN | apply Kd.R_drew)); exact HO_176000.out))) (Kd.R_lt (by (with_reducible repeat (first | apply Kd.R_alloc | apply Kd.R_drewN | apply Kd.R_drew)); exact HO_182000.out))) (Kd.R_lt (by (with_reducible repeat (first | apply Kd.R_alloc | apply Kd.R_drewN | apply Kd.R_drew)); exact HO_195000.out))) (below_size (by repeat (first | (with_reducible first | exact HB.out | apply below_alloc | apply pw_below_drewN | apply below_drew1 | refine below_set ?_ GE165.out | refine below_set ?_ GE175.out | refine below_set ?_ GE181.out | refine below_set ?_ GE194.out) | exact HB.out)))); have n5_ := Aside0.mk (blk_below (g := gb165) (o := .cells #[.slice Ao14 t162.length co14] 24 (0, 0)) (by (with_reducible repeat (first | refine blk_drewN ?_ _ | refine blk_drew ?_ | refine blk_alloc ?_ _)); exact BK165.out) hb); have n6_ := Aside0.mk (blk_below (g := gb175) (o := .cells #[.slice Ao22 t170.length co22] 24 (0, 0)) (by (with_reducible repeat (first | refine blk_drewN ?_ _ | refine blk_drew ?_ | refine blk_alloc ?_ _)); exact BK175.out) hb); have n7_ := Aside0.mk (blk_below (g := gb181) (o := .cells #[.slice Ao28 t176.length co28] 24 (0, 0)) (by (with_reducible repeat (first | refine blk_drewN ?_ _ | refine blk_drew ?_ | refine blk_alloc ?_ _)); exact BK181.out) hb); have n8_ := Aside0.mk (blk_below (g := gb194) (o := .cells #[.slice Ao41 t190.length co41] 24 (0, 0)) (by (with_reducible repeat (first | refine blk_drewN ?_ _ | refine blk_drew ?_ | refine blk_alloc ?_ _)); exact BK194.out) hb); have n9_ := Aside0.mk (below_step (by repeat (first | (with_reducible first | exact HB.out | apply below_alloc | apply pw_below_drewN | apply below_drew1 | refine below_set ?_ GE165.out | refine below_set ?_ GE175.out | refine below_set ?_ GE181.out | refine below_set ?_ GE194.out) | exact HB.out)) hb); clear HO_166000; clear HO_176000; clear HO_182000; clear HO_195000; clear BK165; clear BK175; clear BK181; clear BK194; clear HB; have HO_166000 := n0_; have HO_176000 := n1_; have HO_182000 := n2_; have HO_195000 := n3_; have HO202 := n4_; have BK165 := n5_; have BK175 := n6_; have BK181 := n7_; have BK194 := n8_; have HB := n9_; clear n0_ n1_ n2_ n3_ n4_ n5_ n6_ n7_ n8_ n9_; clear hb ho112; obtain ⟨Ao113, co113, eo113⟩ := Kd.R_slice HO202.out; subst eo113) | (go_at_call 23; (with_reducible refine (snowlineref02_Same.calls kj10 _ _ t170 _ _ y200 false _ ?side1 ?side2 ?side3 ?side4 A66.out).mono ?_); (case side1 => repeat (first | exact (Kd.R_reads' HO_176000.out).2.2 | (with_reducible refine Kd.C_alloc ?_ _) | (with_reducible refine Kd.C_drewN ?_ _) | (with_reducible refine Kd.C_drew ?_))); (case side2 => exact (Kd.R_reads' HO_176000.out).2.1); (case side3 => repeat (first | exact (Kd.R_reads' HO202.out).2.2 | (with_reducible refine Kd.C_alloc ?_ _) | (with_reducible refine Kd.C_drewN ?_ _) | (with_reducible refine Kd.C_drew ?_))); (case side4 => exact (Kd.R_reads' HO202.out).2.1); rintro e w114 ⟨rfl, hb⟩; have n0_ := Aside0.mk (Kd.R_below (by (with_reducible repeat (first | apply Kd.R_alloc | apply Kd.R_drewN | apply Kd.R_drew)); exact HO_166000.out) hb); have n1_ := Aside0.mk (Kd.R_below (by (with_reducible repeat (first | apply Kd.R_alloc | apply Kd.R_drewN | apply Kd.R_drew)); exact HO_176000.out) hb); have n2_ := Aside0.mk (Kd.R_below (by (with_reducible repeat (first | apply Kd.R_alloc | apply Kd.R_drewN | apply Kd.R_drew)); exact HO_182000.out) hb); have n3_ := Aside0.mk (Kd.R_below (by (with_reducible repeat (first | apply Kd.R_alloc | apply Kd.R_drewN | apply Kd.R_drew)); exact HO_195000.out) hb); have n4_ := Aside0.mk (Kd.R_below (by (with_reducible repeat (first | apply Kd.R_alloc | apply Kd.R_drewN | apply Kd.R_drew)); exact HO202.out) hb); have n5_ := Aside0.mk (blk_below (g := gb165) (o := .cells #[.slice Ao14 t162.length co14] 24 (0, 0)) (by (with_reducible repeat (first | refine blk_drewN ?_ _ | refine blk_drew ?_ | refine blk_alloc ?_ _)); exact BK165.out) hb); have n6_ := Aside0.mk (blk_below (g := gb175) (o := .cells #[.slice Ao22 t170.length co22] 24 (0, 0)) (by (with_reducible repeat (first | refine blk_drewN ?_ _ | refine blk_drew ?_ | refine blk_alloc ?_ _)); exact BK175.out) hb); have n7_ := Aside0.mk (blk_below (g := gb181) (o := .cells #[.slice Ao28 t176.length co28] 24 (0, 0)) (by (with_reducible repeat (first | refine blk_drewN ?_ _ | refine blk_drew ?_ | refine blk_alloc ?_ _)); exact BK181.out) hb); have n8_ := Aside0.mk (blk_below (g := gb194) (o := .cells #[.slice Ao41 t190.length co41] 24 (0, 0)) (by (with_reducible repeat (first | refine blk_drewN ?_ _ | refine blk_drew ?_ | refine blk_alloc ?_ _)); exact BK194.out) hb); have n9_ := Aside0.mk (below_step (by repeat (first | (with_reducible first | exact HB.out | apply below_alloc | apply pw_below_drewN | apply below_drew1 | refine below_set ?_ GE165.out | refine below_set ?_ GE175.out | refine below_set ?_ GE181.out | refine below_set ?_ GE194.out) | exact HB.out)) hb); clear HO_166000; clear HO_176000; clear HO_182000; clear HO_195000; clear HO202; clear BK165; clear BK175; clear BK181; clear BK194; clear HB; have HO_166000 := n0_; have HO_176000 := n1_; have HO_182000 := n2_; have HO_195000 := n3_; have HO202 := n4_; have BK165 := n5_; have BK175 := n6_; have BK181 := n7_; have BK194 := n8_; have HB := n9_; clear n0_ n1_ n2_ n3_ n4_ n5_ n6_ n7_ n8_ n9_; (try clear hb); (try clear hb2); (try clear hk); (try clear hi)))
                          go_ret
                          exact ⟨by first | rfl | (simp [errW_none, errW_some] <;> rfl) | (simp [*, errW_none, errW_some] <;> rfl), by repeat (first | (with_reducible first | exact HB.out | apply below_alloc | apply pw_below_drewN | apply below_drew1 | refine below_set ?_ GE165.out | refine below_set ?_ GE175.out | refine below_set ?_ GE181.out | refine below_set ?_ GE194.out) | exact HB.out)⟩
                      · rw [if_neg c65] at H
                        have c65b0 : (t195.toList == ([112, 97, 99, 107, 32, 52, 48, 47, 50, 47, 48, 32, 49, 48, 48, 47, 48, 47, 53] : List UInt8)) = false := beq_eq_false_iff_ne.mpr c65
                        have c65b1 : (t195.toList != ([112, 97, 99, 107, 32, 52, 48, 47, 50, 47, 48, 32, 49, 48, 48, 47, 48, 47, 53] : List UInt8)) = true := bne_iff_ne.mpr c65
                        obtain rfl := Option.some.inj H
                        go_wp2
                        go_ret
                        exact ⟨by first | rfl | (simp [errW_none, errW_some] <;> rfl) | (simp [*, errW_none, errW_some] <;> rfl), by repeat (first | (with_reducible first | exact HB.out | apply below_alloc | apply pw_below_drewN | apply below_drew1 | refine below_set ?_ GE165.out | refine below_set ?_ GE175.out | refine below_set ?_ GE181.out | refine below_set ?_ GE194.out) | exact HB.out)⟩
                    · rw [if_neg c64] at H
                      have c64b0 : (t188 == 27) = false := beq_eq_false_iff_ne.mpr c64
                      have c64b1 : (t188 != 27) = true := bne_iff_ne.mpr c64
                      obtain rfl := Option.some.inj H
                      go_wp2
                      go_ret
                      exact ⟨by first | rfl | (simp [errW_none, errW_some] <;> rfl) | (simp [*, errW_none, errW_some] <;> rfl), by repeat (first | (with_reducible first | exact HB.out | apply below_alloc | apply pw_below_drewN | apply below_drew1 | refine below_set ?_ GE165.out | refine below_set ?_ GE175.out | refine below_set ?_ GE181.out | refine below_set ?_ GE194.out) | exact HB.out)⟩
                  · rw [if_neg c63] at H
                    have c63b0 : (t183 == 42) = false := beq_eq_false_iff_ne.mpr c63
                    have c63b1 : (t183 != 42) = true := bne_iff_ne.mpr c63
                    obtain rfl := Option.some.inj H
                    go_wp2
                    go_ret
                    exact ⟨by first | rfl | (simp [errW_none, errW_some] <;> rfl) | (simp [*, errW_none, errW_some] <;> rfl), by repeat (first | (with_reducible first | exact HB.out | apply below_alloc | apply pw_below_drewN | apply below_drew1 | refine below_set ?_ GE165.out | refine below_set ?_ GE175.out | refine below_set ?_ GE181.out | refine below_set ?_ GE194.out) | exact HB.out)⟩
                · rw [if_neg c62] at H
                  have c62b0 : (t182 == 1) = false := beq_eq_false_iff_ne.mpr c62
                  have c62b1 : (t182 != 1) = true := bne_iff_ne.mpr c62
                  obtain rfl := Option.some.inj H
                  go_wp2
                  go_ret
                  exact ⟨by first | rfl | (simp [errW_none, errW_some] <;> rfl) | (simp [*, errW_none, errW_some] <;> rfl), by repeat (first | (with_reducible first | exact HB.out | apply below_alloc | apply pw_below_drewN | apply below_drew1 | refine below_set ?_ GE165.out | refine below_set ?_ GE175.out | refine below_set ?_ GE181.out | refine below_set ?_ GE194.out) | exact HB.out)⟩
              · rw [if_neg c61] at H
                have c61b0 : (t179 == 0) = false := beq_eq_false_iff_ne.mpr c61
                have c61b1 : (t179 != 0) = true := bne_iff_ne.mpr c61
                obtain rfl := Option.some.inj H
                go_wp2
                go_ret
                exact ⟨by first | rfl | (simp [errW_none, errW_some] <;> rfl) | (simp [*, errW_none, errW_some] <;> rfl), by repeat (first | (with_reducible first | exact HB.out | apply below_alloc | apply pw_below_drewN | apply below_drew1 | refine below_set ?_ GE165.out | refine below_set ?_ GE175.out | refine below_set ?_ GE181.out | refine below_set ?_ GE194.out) | exact HB.out)⟩
            · rw [if_neg c60] at H
              have c60b0 : (t173 == 13) = false := beq_eq_false_iff_ne.mpr c60
              have c60b1 : (t173 != 13) = true := bne_iff_ne.mpr c60
              obtain rfl := Option.some.inj H
              go_wp2
              go_ret
              exact ⟨by first | rfl | (simp [errW_none, errW_some] <;> rfl) | (simp [*, errW_none, errW_some] <;> rfl), by repeat (first | (with_reducible first | exact HB.out | apply below_alloc | apply pw_below_drewN | apply below_drew1 | refine below_set ?_ GE165.out | refine below_set ?_ GE175.out | refine below_set ?_ GE181.out | refine below_set ?_ GE194.out) | exact HB.out)⟩
          · rw [if_neg c59] at H
            have c59b0 : (t168 == 10) = false := beq_eq_false_iff_ne.mpr c59
            have c59b1 : (t168 != 10) = true := bne_iff_ne.mpr c59
            obtain rfl := Option.some.inj H
            go_wp2
            go_ret
            exact ⟨by first | rfl | (simp [errW_none, errW_some] <;> rfl) | (simp [*, errW_none, errW_some] <;> rfl), by repeat (first | (with_reducible first | exact HB.out | apply below_alloc | apply pw_below_drewN | apply below_drew1 | refine below_set ?_ GE165.out | refine below_set ?_ GE175.out | refine below_set ?_ GE181.out | refine below_set ?_ GE194.out) | exact HB.out)⟩
        · rw [if_neg c58] at H
          have c58b0 : (t166 == 142) = false := beq_eq_false_iff_ne.mpr c58
          have c58b1 : (t166 != 142) = true := bne_iff_ne.mpr c58
          obtain rfl := Option.some.inj H
          go_wp2
          go_ret
          exact ⟨by first | rfl | (simp [errW_none, errW_some] <;> rfl) | (simp [*, errW_none, errW_some] <;> rfl), by repeat (first | (with_reducible first | exact HB.out | apply below_alloc | apply pw_below_drewN | apply below_drew1 | refine below_set ?_ GE165.out | refine below_set ?_ GE175.out | refine below_set ?_ GE181.out | refine below_set ?_ GE194.out) | exact HB.out)⟩
end Go.Proofs.YtpldcikmlpegpaaDoor.PB
end
section
namespace Go.Proofs.YtpldcikmlpegpaaDoor.PB
open Go.RowKit Go.Proofs.YtpldcikmlpegpaaDoorW.PrintWords Go.Proofs.YtpldcikmlpegpaaDoorW.PrintLast Go.Proofs.YtpldcikmlpegpaaDoorW.PrintMore
attribute [local go_sem] max2_int min2_int max_two min_two max_three min_three max_four min_four   -- for this text's walks alone
set_option linter.unusedVariables false
set_option linter.unusedSimpArgs false
def snowlinelaw02_PackReady.f (k : Nat) (l0_0 : List (S48)) (a1 : Int) : Option (Bool) := (snowlinelaw02_sane.f k).bind fun t385 => (if t385 = true then ((pack_Ready.f k l0_0).bind fun bt386 => (if bt386.2 = 0 then ((pack_Apply.f l0_0 2 a1 0).bind fun bt388 => (if bt388.2.2 = 0 then (if bt386.1 ≥ 0 then (some (bt388.2.1 == (mx 0 (wrap64 (a1 - bt386.1))))) else (some false)) else (if bt388.2.2 = 2 then (some true) else (some (bt388.2.2 == 21))))) else (if bt386.1 = 0 then ((pack_Check.f k l0_0).bind fun t394 => (some (t394 != 0))) else (some false)))) else (some false))
set_option maxHeartbeats 8000000 in
set_option maxRecDepth 100000 in
theorem snowlinelaw02_PackReady.calls (k : Nat) (A0_0 : Option Addr) (c0_0 : Nat) (l0_0 : List (S48)) (a1 : Int) (r : Bool) (w : World) (hr0_0 : Kd.C k48 w A0_0 l0_0.length l0_0) (hc0_0 : l0_0.length ≤ c0_0) (hG : Glob w) (h : snowlinelaw02_PackReady.f k l0_0 a1 = some r) :
    Calls Tryd.prog 6 #[.agg #[.slice A0_0 l0_0.length c0_0], .int .i64 a1] w fun e w' => e = .returned (.bool r) ∧ Below w.heap.size w w' := by
  have hu24 := Tryd.underlying24
  have hu26 := Tryd.underlying26
  have HR0_0 := Aside0.mk hr0_0
  have HC0_0 := Aside0.mk hc0_0
  clear hr0_0 hc0_0
  have HB := Aside0.mk (Below.refl w.heap.size w)
  have HGl := Aside0.mk hG
  clear hG
  have H : ((snowlinelaw02_sane.f k).bind fun t385 => (if t385 = true then ((pack_Ready.f k l0_0).bind fun bt386 => (if bt386.2 = 0 then ((pack_Apply.f l0_0 2 a1 0).bind fun bt388 => (if bt388.2.2 = 0 then (if bt386.1 ≥ 0 then (some (bt388.2.1 == (mx 0 (wrap64 (a1 - bt386.1))))) else (some false)) else (if bt388.2.2 = 2 then (some true) else (some (bt388.2.2 == 21))))) else (if bt386.1 = 0 then ((pack_Check.f k l0_0).bind fun t394 => (some (t394 != 0))) else (some false)))) else (some false))) = some r := h
  clear h
  replace H := Option.bind_eq_some_iff.mp H
  obtain ⟨t385, A30, H⟩ := H
  replace H : (if t385 = true then ((pack_Ready.f k l0_0).bind fun bt386 => (if bt386.2 = 0 then ((pack_Apply.f l0_0 2 a1 0).bind fun bt388 => (if bt388.2.2 = 0 then (if bt386.1 ≥ 0 then (some (bt388.2.1 == (mx 0 (wrap64 (a1 - bt386.1))))) else (some false)) else (if bt388.2.2 = 2 then (some true) else (some (bt388.2.2 == 21))))) else (if bt386.1 = 0 then ((pack_Check.f k l0_0).bind fun t394 => (some (t394 != 0))) else (some false)))) else (some false)) = some r := H
  have A3 := Aside0.mk A30
  clear A30
  by_cases c4 : t385 = true
  · subst c4
    have H1 : ((pack_Ready.f k l0_0).bind fun bt386 => (if bt386.2 = 0 then ((pack_Apply.f l0_0 2 a1 0).bind fun bt388 => (if bt388.2.2 = 0 then (if bt386.1 ≥ 0 then (some (bt388.2.1 == (mx 0 (wrap64 (a1 - bt386.1))))) else (some false)) else (if bt388.2.2 = 2 then (some true) else (some (bt388.2.2 == 21))))) else (if bt386.1 = 0 then ((pack_Check.f k l0_0).bind fun t394 => (some (t394 != 0))) else (some false)))) = some r := by rw [if_pos rfl] at H; exact H
    clear H
    have H := H1
    clear H1
    replace H := Option.bind_eq_some_iff.mp H
    obtain ⟨⟨t386, t387⟩, A50, H⟩ := H
    replace H : (if t387 = 0 then ((pack_Apply.f l0_0 2 a1 0).bind fun bt388 => (if bt388.2.2 = 0 then (if t386 ≥ 0 then (some (bt388.2.1 == (mx 0 (wrap64 (a1 - t386))))) else (some false)) else (if bt388.2.2 = 2 then (some true) else (some (bt388.2.2 == 21))))) else (if t386 = 0 then ((pack_Check.f k l0_0).bind fun t394 => (some (t394 != 0))) else (some false))) = some r := H
    have A5 := Aside0.mk A50
    clear A50
    by_cases c6 : t387 = 0
    · rw [if_pos c6] at H
      have c6b0 : (t387 == 0) = true := beq_iff_eq.mpr c6
      have c6b1 : (t387 != 0) = false := bne_eq_false_iff_eq.mpr c6
      clear c6
      replace H := Option.bind_eq_some_iff.mp H
      obtain ⟨⟨t388, t391, t392⟩, A70, H⟩ := H
      replace H : (if t392 = 0 then (if t386 ≥ 0 then (some (t391 == (mx 0 (wrap64 (a1 - t386))))) else (some false)) else (if t392 = 2 then (some true) else (some (t392 == 21)))) = some r := H
      have A7 := Aside0.mk A70
      clear A70
      by_cases c8 : t392 = 0
      · rw [if_pos c8] at H
        have c8b0 : (t392 == 0) = true := beq_iff_eq.mpr c8
        have c8b1 : (t392 != 0) = false := bne_eq_false_iff_eq.mpr c8
        clear c8
        by_cases c9 : t386 ≥ 0
        · rw [if_pos c9] at H
          have c9b0 : decide (0 ≤ t386) = true := decide_eq_true c9
          clear c9
          obtain ⟨ji10, hji10⟩ : ∃ j_ : Int, (mx 0 (wrap64 (a1 - t386))) = j_ := ⟨_, rfl⟩
          replace H : (some (t391 == (ji10))) = some r := by first | (rw [hji10] at H; exact H) | (simp only [hji10] at H ⊢; exact H)
          (try rw [hji10] at A3)
          (try rw [hji10] at A5)
          (try rw [hji10] at A7)
          (try (have hji10l : 0 ≤ ji10 := by (rw [← hji10]; unfold mx; (repeat' split) <;> omega)))
          (try (have hji10m : 0 ≤ ji10 := by omega))
          have hji10_ : (if 0 < (wrap64 (a1 - t386)) then (wrap64 (a1 - t386)) else 0) = ji10 := hji10
          obtain rfl := Option.some.inj H
          go_enter Tryd.func6, Tryd.ntmps6
          go_wp2_with (first | ((with_reducible refine gate_dst (N := 2) rfl ?_); (try (refine gate_guard (by rfl) ?_; dsimp only)); refine box_event ?hg (N := 2) ?hd (cs := #[.slice A0_0 l0_0.length c0_0]) (t := 24) ?hr ?_; (case hd => rfl); (case hg => rfl); (case hr => first | (go_simp; done) | (go_simp; rfl)); intro gb384 hg w11 hbox hb; have n0_ := Aside0.mk (below_step (by repeat (first | (with_reducible first | exact HB.out | apply below_alloc | apply pw_below_drewN | apply below_drew1) | exact HB.out)) hb); have n1_ := Aside0.mk (hbox); have n2_ := Aside0.mk ((by rw [hg]; exact (below_size (by repeat (first | (with_reducible first | exact HB.out | apply below_alloc | apply pw_below_drewN | apply below_drew1) | exact HB.out))) : w.heap.size ≤ gb384)); have n3_ := Aside0.mk ((by rw [hg]; exact (below_size (by repeat (first | (with_reducible first | exact HB.out | apply below_alloc | apply pw_below_drewN | apply below_drew1) | exact HB.out))) : w.heap.size ≤ gb384)); clear HB; have HB := n0_; have BK384 := n1_; have GW384 := n2_; have GE384 := n3_; clear n0_ n1_ n2_ n3_; clear hb hbox hg) | ((with_reducible refine gate_callee (f := 18) rfl ?_); refine goesL_ (some 10) rfl rfl Tryd.func18 (by kernel_rfl) rfl #[] rfl (by (try simp only [List.map_toArray, List.map_cons, List.map_nil]); first | done | rfl | (simp only [List.length_drop, List.length_take]; rfl)) ?_; (with_reducible refine (snowlinelaw02_sane.calls k  true _ ?hgl_ A3.out).mono ?_); (case hgl_ => exact HGl.out.below (by repeat (first | (with_reducible first | exact HB.out | apply below_alloc | apply pw_below_drewN | apply below_drew1 | refine below_set ?_ GE384.out) | exact HB.out)) (Nat.le_refl _)); rintro e w12 ⟨rfl, hb⟩; refine ⟨_, rfl, ?_⟩; have n0_ := Aside0.mk (blk_below (g := gb384) (o := .cells #[.slice A0_0 l0_0.length c0_0] 24 (0, 0)) (by (with_reducible repeat (first | refine blk_drewN ?_ _ | refine blk_drew ?_ | refine blk_alloc ?_ _)); exact BK384.out) hb); have n1_ := Aside0.mk (below_step (by repeat (first | (with_reducible first | exact HB.out | apply below_alloc | apply pw_below_drewN | apply below_drew1 | refine below_set ?_ GE384.out) | exact HB.out)) hb); clear BK384; clear HB; have BK384 := n0_; have HB := n1_; clear n0_ n1_; (try clear hb); (try clear hb2); (try clear hk); (try clear hi); have hcz13_0 : w12.cell? ⟨gb384, 0, none⟩ = some (.slice A0_0 l0_0.length c0_0) := (blk_cell BK384.out 0).trans rfl; have hfz13_0 := blk_frozen BK384.out 0) | ((with_reducible refine gate_callee (f := 26) rfl ?_); refine goesL_ (some 14) rfl rfl Tryd.func26 (by kernel_rfl) rfl #[.agg #[.slice A0_0 l0_0.length c0_0]] rfl (by (try simp only [List.map_toArray, List.map_cons, List.map_nil]); first | done | rfl | (simp only [List.length_drop, List.length_take]; rfl)) ?_; (with_reducible refine (pack_Ready.calls k _ _ l0_0 t386 t387 _ ?side1 ?side2 A5.out).mono ?_); (case side1 => repeat (first | exact (Kd.C_below HR0_0.out HB.out) | (with_reducible refine Kd.C_alloc ?_ _) | (with_reducible refine Kd.C_drewN ?_ _) | (with_reducible refine Kd.C_drew ?_))); (case side2 => exact HC0_0.out); rintro e w14 ⟨rfl, hb⟩; refine ⟨_, rfl, ?_⟩; have n0_ := Aside0.mk (blk_below (g := gb384) (o := .cells #[.slice A0_0 l0_0.length c0_0] 24 (0, 0)) (by (with_reducible repeat (first | refine blk_drewN ?_ _ | refine blk_drew ?_ | refine blk_alloc ?_ _)); exact BK384.out) hb); have n1_ := Aside0.mk (below_step (by repeat (first | (with_reducible first | exact HB.out | apply below_alloc | apply pw_below_drewN | apply below_drew1 | refine below_set ?_ GE384.out) | exact HB.out)) hb); clear BK384; clear HB; have BK384 := n0_; have HB := n1_; clear n0_ n1_; (try clear hb); (try clear hb2); (try clear hk); (try clear hi); have hcz15_0 : w14.cell? ⟨gb384, 0, none⟩ = some (.slice A0_0 l0_0.length c0_0) := (blk_cell BK384.out 0).trans rfl; have hfz15_0 := blk_frozen BK384.out 0) | ((with_reducible refine gate_callee (f := 21) rfl ?_); refine goesL_ (some 30) rfl rfl Tryd.func21 (by kernel_rfl) rfl #[.agg #[.slice A0_0 l0_0.length c0_0], .agg #[.int .i64 2, .int .i64 a1, .int .i64 0]] rfl (by (try simp only [List.map_toArray, List.map_cons, List.map_nil]); first | done | rfl | (simp only [List.length_drop, List.length_take]; rfl)) ?_; (with_reducible refine (pack_Apply.calls _ _ l0_0 2 a1 0 t388 t391 t392 _ ?side1 ?side2 A7.out).mono ?_); (case side1 => repeat (first | exact (Kd.C_below HR0_0.out HB.out) | (with_reducible refine Kd.C_alloc ?_ _) | (with_reducible refine Kd.C_drewN ?_ _) | (with_reducible refine Kd.C_drew ?_))); (case side2 => exact HC0_0.out); rintro e w16 ⟨v389, rfl, ho0, hb⟩; refine ⟨_, rfl, ?_⟩; have n0_ := Aside0.mk (Kd.R_lower ho0 (below_size (by repeat (first | (with_reducible first | exact HB.out | apply below_alloc | apply pw_below_drewN | apply below_drew1 | refine below_set ?_ GE384.out) | exact HB.out)))); have n1_ := Aside0.mk (blk_below (g := gb384) (o := .cells #[.slice A0_0 l0_0.length c0_0] 24 (0, 0)) (by (with_reducible repeat (first | refine blk_drewN ?_ _ | refine blk_drew ?_ | refine blk_alloc ?_ _)); exact BK384.out) hb); have n2_ := Aside0.mk (below_step (by repeat (first | (with_reducible first | exact HB.out | apply below_alloc | apply pw_below_drewN | apply below_drew1 | refine below_set ?_ GE384.out) | exact HB.out)) hb); clear BK384; clear HB; have HO390 := n0_; have BK384 := n1_; have HB := n2_; clear n0_ n1_ n2_; (try clear hb); (try clear hb2); (try clear hk); (try clear hi); (try clear ho0)) | ((with_reducible refine gate_dst (N := 7) rfl ?_); (try (refine gate_guard (by rfl) ?_; dsimp only)); refine box_event ?hg (N := 7) ?hd (cs := #[.slice none 0 0]) (t := 24) ?hr ?_; (case hd => rfl); (case hg => rfl); (case hr => first | (go_simp; done) | (go_simp; rfl)); intro gb393 hg w17 hbox hb; have n0_ := Aside0.mk (Kd.R_below (by (with_reducible repeat (first | apply Kd.R_alloc | apply Kd.R_drewN | apply Kd.R_drew)); exact HO390.out) hb); have n1_ := Aside0.mk (blk_below (g := gb384) (o := .cells #[.slice A0_0 l0_0.length c0_0] 24 (0, 0)) (by (with_reducible repeat (first | refine blk_drewN ?_ _ | refine blk_drew ?_ | refine blk_alloc ?_ _)); exact BK384.out) hb); have n2_ := Aside0.mk (below_step (by repeat (first | (with_reducible first | exact HB.out | apply below_alloc | apply pw_below_drewN | apply below_drew1 | refine below_set ?_ GE384.out) | exact HB.out)) hb); have n3_ := Aside0.mk (hbox); have n4_ := Aside0.mk ((by rw [hg]; exact (below_size (by repeat (first | (with_reducible first | exact HB.out | apply below_alloc | apply pw_below_drewN | apply below_drew1 | refine below_set ?_ GE384.out) | exact HB.out))) : w.heap.size ≤ gb393)); have n5_ := Aside0.mk ((by rw [hg]; exact (below_size (by repeat (first | (with_reducible first | exact HB.out | apply below_alloc | apply pw_below_drewN | apply below_drew1 | refine below_set ?_ GE384.out) | exact HB.out))) : w.heap.size ≤ gb393)); have n6_ := Aside0.mk ((by rw [hg]; exact Nat.ne_of_lt (blk_lt (g := gb384) (o := .cells #[.slice A0_0 l0_0.length c0_0] 24 (0, 0)) (by (with_reducible repeat (first | refine blk_drewN ?_ _ | refine blk_drew ?_ | refine blk_alloc ?_ _)); exact BK384.out)) : gb384 ≠ gb393)); have n7_ := Aside0.mk ((by rw [hg]; exact Nat.ne_of_gt (blk_lt (g := gb384) (o := .cells #[.slice A0_0 l0_0.length c0_0] 24 (0, 0)) (by (with_reducible repeat (first | refine blk_drewN ?_ _ | refine blk_drew ?_ | refine blk_alloc ?_ _)); exact BK384.out)) : gb393 ≠ gb384)); clear HO390; clear BK384; clear HB; have HO390 := n0_; have BK384 := n1_; have HB := n2_; have BK393 := n3_; have GW393 := n4_; have GE393 := n5_; have NB384_393 := n6_; have NB393_384 := n7_; clear n0_ n1_ n2_ n3_ n4_ n5_ n6_ n7_; clear hb hbox hg; obtain ⟨Ao18, co18, eo18⟩ := Kd.R_slice HO390.out; subst eo18; have hnb19 := NB393_384.out; have hnc19 := NB384_393.out; have hcz20_0 : w17.cell? ⟨gb393, 0, none⟩ = some (.slice none 0 0) := (blk_cell BK393.out 0).trans rfl; have hfz20_0 := blk_frozen BK393.out 0))
          go_ret
          exact ⟨by first | rfl | (simp [errW_none, errW_some] <;> rfl) | (simp only [← hji10]; first | rfl | (simp [errW_none, errW_some] <;> rfl)) | (simp [*, errW_none, errW_some] <;> rfl), by repeat (first | (with_reducible first | exact HB.out | apply below_alloc | apply pw_below_drewN | apply below_drew1 | refine below_set ?_ GE384.out | refine below_set ?_ GE393.out) | exact HB.out)⟩
        · rw [if_neg c9] at H
          have c9b0 : decide (0 ≤ t386) = false := decide_eq_false c9
          clear c9
          obtain rfl := Option.some.inj H
          go_enter Tryd.func6, Tryd.ntmps6
          go_wp2_with (first | ((with_reducible refine gate_dst (N := 2) rfl ?_); (try (refine gate_guard (by rfl) ?_; dsimp only)); refine box_event ?hg (N := 2) ?hd (cs := #[.slice A0_0 l0_0.length c0_0]) (t := 24) ?hr ?_; (case hd => rfl); (case hg => rfl); (case hr => first | (go_simp; done) | (go_simp; rfl)); intro gb384 hg w21 hbox hb; have n0_ := Aside0.mk (below_step (by repeat (first | (with_reducible first | exact HB.out | apply below_alloc | apply pw_below_drewN | apply below_drew1) | exact HB.out)) hb); have n1_ := Aside0.mk (hbox); have n2_ := Aside0.mk ((by rw [hg]; exact (below_size (by repeat (first | (with_reducible first | exact HB.out | apply below_alloc | apply pw_below_drewN | apply below_drew1) | exact HB.out))) : w.heap.size ≤ gb384)); have n3_ := Aside0.mk ((by rw [hg]; exact (below_size (by repeat (first | (with_reducible first | exact HB.out | apply below_alloc | apply pw_below_drewN | apply below_drew1) | exact HB.out))) : w.heap.size ≤ gb384)); clear HB; have HB := n0_; have BK384 := n1_; have GW384 := n2_; have GE384 := n3_; clear n0_ n1_ n2_ n3_; clear hb hbox hg) | ((with_reducible refine gate_callee (f := 18) rfl ?_); refine goesL_ (some 10) rfl rfl Tryd.func18 (by kernel_rfl) rfl #[] rfl (by (try simp only [List.map_toArray, List.map_cons, List.map_nil]); first | done | rfl | (simp only [List.length_drop, List.length_take]; rfl)) ?_; (with_reducible refine (snowlinelaw02_sane.calls k  true _ ?hgl_ A3.out).mono ?_); (case hgl_ => exact HGl.out.below (by repeat (first | (with_reducible first | exact HB.out | apply below_alloc | apply pw_below_drewN | apply below_drew1 | refine below_set ?_ GE384.out) | exact HB.out)) (Nat.le_refl _)); rintro e w22 ⟨rfl, hb⟩; refine ⟨_, rfl, ?_⟩; have n0_ := Aside0.mk (blk_below (g := gb384) (o := .cells #[.slice A0_0 l0_0.length c0_0] 24 (0, 0)) (by (with_reducible repeat (first | refine blk_drewN ?_ _ | refine blk_drew ?_ | refine blk_alloc ?_ _)); exact BK384.out) hb); have n1_ := Aside0.mk (below_step (by repeat (first | (with_reducible first | exact HB.out | apply below_alloc | apply pw_below_drewN | apply below_drew1 | refine below_set ?_ GE384.out) | exact HB.out)) hb); clear BK384; clear HB; have BK384 := n0_; have HB := n1_; clear n0_ n1_; (try clear hb); (try clear hb2); (try clear hk); (try clear hi); have hcz23_0 : w22.cell? ⟨gb384, 0, none⟩ = some (.slice A0_0 l0_0.length c0_0) := (blk_cell BK384.out 0).trans rfl; have hfz23_0 := blk_frozen BK384.out 0) | ((with_reducible refine gate_callee (f := 26) rfl ?_); refine goesL_ (some 14) rfl rfl Tryd.func26 (by kernel_rfl) rfl #[.agg #[.slice A0_0 l0_0.length c0_0]] rfl (by (try simp only [List.map_toArray, List.map_cons, List.map_nil]); first | done | rfl | (simp only [List.length_drop, List.length_take]; rfl)) ?_; (with_reducible refine (pack_Ready.calls k _ _ l0_0 t386 t387 _ ?side1 ?side2 A5.out).mono ?_); (case side1 => repeat (first | exact (Kd.C_below HR0_0.out HB.out) | (with_reducible refine Kd.C_alloc ?_ _) | (with_reducible refine Kd.C_drewN ?_ _) | (with_reducible refine Kd.C_drew ?_))); (case side2 => exact HC0_0.out); rintro e w24 ⟨rfl, hb⟩; refine ⟨_, rfl, ?_⟩; have n0_ := Aside0.mk (blk_below (g := gb384) (o := .cells #[.slice A0_0 l0_0.length c0_0] 24 (0, 0)) (by (with_reducible repeat (first | refine blk_drewN ?_ _ | refine blk_drew ?_ | refine blk_alloc ?_ _)); exact BK384.out) hb); have n1_ := Aside0.mk (below_step (by repeat (first | (with_reducible first | exact HB.out | apply below_alloc | apply pw_below_drewN | apply below_drew1 | refine below_set ?_ GE384.out) | exact HB.out)) hb); clear BK384; clear HB; have BK384 := n0_; have HB := n1_; clear n0_ n1_; (try clear hb); (try clear hb2); (try clear hk); (try clear hi); have hcz25_0 : w24.cell? ⟨gb384, 0, none⟩ = some (.slice A0_0 l0_0.length c0_0) := (blk_cell BK384.out 0).trans rfl; have hfz25_0 := blk_frozen BK384.out 0) | ((with_reducible refine gate_callee (f := 21) rfl ?_); refine goesL_ (some 30) rfl rfl Tryd.func21 (by kernel_rfl) rfl #[.agg #[.slice A0_0 l0_0.length c0_0], .agg #[.int .i64 2, .int .i64 a1, .int .i64 0]] rfl (by (try simp only [List.map_toArray, List.map_cons, List.map_nil]); first | done | rfl | (simp only [List.length_drop, List.length_take]; rfl)) ?_; (with_reducible refine (pack_Apply.calls _ _ l0_0 2 a1 0 t388 t391 t392 _ ?side1 ?side2 A7.out).mono ?_); (case side1 => repeat (first | exact (Kd.C_below HR0_0.out HB.out) | (with_reducible refine Kd.C_alloc ?_ _) | (with_reducible refine Kd.C_drewN ?_ _) | (with_reducible refine Kd.C_drew ?_))); (case side2 => exact HC0_0.out); rintro e w26 ⟨v389, rfl, ho0, hb⟩; refine ⟨_, rfl, ?_⟩; have n0_ := Aside0.mk (Kd.R_lower ho0 (below_size (by repeat (first | (with_reducible first | exact HB.out | apply below_alloc | apply pw_below_drewN | apply below_drew1 | refine below_set ?_ GE384.out) | exact HB.out)))); have n1_ := Aside0.mk (blk_below (g := gb384) (o := .cells #[.slice A0_0 l0_0.length c0_0] 24 (0, 0)) (by (with_reducible repeat (first | refine blk_drewN ?_ _ | refine blk_drew ?_ | refine blk_alloc ?_ _)); exact BK384.out) hb); have n2_ := Aside0.mk (below_step (by repeat (first | (with_reducible first | exact HB.out | apply below_alloc | apply pw_below_drewN | apply below_drew1 | refine below_set ?_ GE384.out) | exact HB.out)) hb); clear BK384; clear HB; have HO390 := n0_; have BK384 := n1_; have HB := n2_; clear n0_ n1_ n2_; (try clear hb); (try clear hb2); (try clear hk); (try clear hi); (try clear ho0)) | ((with_reducible refine gate_dst (N := 7) rfl ?_); (try (refine gate_guard (by rfl) ?_; dsimp only)); refine box_event ?hg (N := 7) ?hd (cs := #[.slice none 0 0]) (t := 24) ?hr ?_; (case hd => rfl); (case hg => rfl); (case hr => first | (go_simp; done) | (go_simp; rfl)); intro gb393 hg w27 hbox hb; have n0_ := Aside0.mk (Kd.R_below (by (with_reducible repeat (first | apply Kd.R_alloc | apply Kd.R_drewN | apply Kd.R_drew)); exact HO390.out) hb); have n1_ := Aside0.mk (blk_below (g := gb384) (o := .cells #[.slice A0_0 l0_0.length c0_0] 24 (0, 0)) (by (with_reducible repeat (first | refine blk_drewN ?_ _ | refine blk_drew ?_ | refine blk_alloc ?_ _)); exact BK384.out) hb); have n2_ := Aside0.mk (below_step (by repeat (first | (with_reducible first | exact HB.out | apply below_alloc | apply pw_below_drewN | apply below_drew1 | refine below_set ?_ GE384.out) | exact HB.out)) hb); have n3_ := Aside0.mk (hbox); have n4_ := Aside0.mk ((by rw [hg]; exact (below_size (by repeat (first | (with_reducible first | exact HB.out | apply below_alloc | apply pw_below_drewN | apply below_drew1 | refine below_set ?_ GE384.out) | exact HB.out))) : w.heap.size ≤ gb393)); have n5_ := Aside0.mk ((by rw [hg]; exact (below_size (by repeat (first | (with_reducible first | exact HB.out | apply below_alloc | apply pw_below_drewN | apply below_drew1 | refine below_set ?_ GE384.out) | exact HB.out))) : w.heap.size ≤ gb393)); have n6_ := Aside0.mk ((by rw [hg]; exact Nat.ne_of_lt (blk_lt (g := gb384) (o := .cells #[.slice A0_0 l0_0.length c0_0] 24 (0, 0)) (by (with_reducible repeat (first | refine blk_drewN ?_ _ | refine blk_drew ?_ | refine blk_alloc ?_ _)); exact BK384.out)) : gb384 ≠ gb393)); have n7_ := Aside0.mk ((by rw [hg]; exact Nat.ne_of_gt (blk_lt (g := gb384) (o := .cells #[.slice A0_0 l0_0.length c0_0] 24 (0, 0)) (by (with_reducible repeat (first | refine blk_drewN ?_ _ | refine blk_drew ?_ | refine blk_alloc ?_ _)); exact BK384.out)) : gb393 ≠ gb384)); clear HO390; clear BK384; clear HB; have HO390 := n0_; have BK384 := n1_; have HB := n2_; have BK393 := n3_; have GW393 := n4_; have GE393 := n5_; have NB384_393 := n6_; have NB393_384 := n7_; clear n0_ n1_ n2_ n3_ n4_ n5_ n6_ n7_; clear hb hbox hg; obtain ⟨Ao28, co28, eo28⟩ := Kd.R_slice HO390.out; subst eo28; have hnb29 := NB393_384.out; have hnc29 := NB384_393.out; have hcz30_0 : w27.cell? ⟨gb393, 0, none⟩ = some (.slice none 0 0) := (blk_cell BK393.out 0).trans rfl; have hfz30_0 := blk_frozen BK393.out 0))
          go_ret
          exact ⟨by first | rfl | (simp [errW_none, errW_some] <;> rfl) | (simp [*, errW_none, errW_some] <;> rfl), by repeat (first | (with_reducible first | exact HB.out | apply below_alloc | apply pw_below_drewN | apply below_drew1 | refine below_set ?_ GE384.out | refine below_set ?_ GE393.out) | exact HB.out)⟩
      · rw [if_neg c8] at H
        have c8b0 : (t392 == 0) = false := beq_eq_false_iff_ne.mpr c8
        have c8b1 : (t392 != 0) = true := bne_iff_ne.mpr c8
        by_cases c31 : t392 = 2
        · rw [if_pos c31] at H
          have c31b0 : (t392 == 2) = true := beq_iff_eq.mpr c31
          have c31b1 : (t392 != 2) = false := bne_eq_false_iff_eq.mpr c31
          clear c31
          obtain rfl := Option.some.inj H
          go_enter Tryd.func6, Tryd.ntmps6
          go_wp2_with (first | ((with_reducible refine gate_dst (N := 2) rfl ?_); (try (refine gate_guard (by rfl) ?_; dsimp only)); refine box_event ?hg (N := 2) ?hd (cs := #[.slice A0_0 l0_0.length c0_0]) (t := 24) ?hr ?_; (case hd => rfl); (case hg => rfl); (case hr => first | (go_simp; done) | (go_simp; rfl)); intro gb384 hg w32 hbox hb; have n0_ := Aside0.mk (below_step (by repeat (first | (with_reducible first | exact HB.out | apply below_alloc | apply pw_below_drewN | apply below_drew1) | exact HB.out)) hb); have n1_ := Aside0.mk (hbox); have n2_ := Aside0.mk ((by rw [hg]; exact (below_size (by repeat (first | (with_reducible first | exact HB.out | apply below_alloc | apply pw_below_drewN | apply below_drew1) | exact HB.out))) : w.heap.size ≤ gb384)); have n3_ := Aside0.mk ((by rw [hg]; exact (below_size (by repeat (first | (with_reducible first | exact HB.out | apply below_alloc | apply pw_below_drewN | apply below_drew1) | exact HB.out))) : w.heap.size ≤ gb384)); clear HB; have HB := n0_; have BK384 := n1_; have GW384 := n2_; have GE384 := n3_; clear n0_ n1_ n2_ n3_; clear hb hbox hg) | ((with_reducible refine gate_callee (f := 18) rfl ?_); refine goesL_ (some 10) rfl rfl Tryd.func18 (by kernel_rfl) rfl #[] rfl (by (try simp only [List.map_toArray, List.map_cons, List.map_nil]); first | done | rfl | (simp only [List.length_drop, List.length_take]; rfl)) ?_; (with_reducible refine (snowlinelaw02_sane.calls k  true _ ?hgl_ A3.out).mono ?_); (case hgl_ => exact HGl.out.below (by repeat (first | (with_reducible first | exact HB.out | apply below_alloc | apply pw_below_drewN | apply below_drew1 | refine below_set ?_ GE384.out) | exact HB.out)) (Nat.le_refl _)); rintro e w33 ⟨rfl, hb⟩; refine ⟨_, rfl, ?_⟩; have n0_ := Aside0.mk (blk_below (g := gb384) (o := .cells #[.slice A0_0 l0_0.length c0_0] 24 (0, 0)) (by (with_reducible repeat (first | refine blk_drewN ?_ _ | refine blk_drew ?_ | refine blk_alloc ?_ _)); exact BK384.out) hb); have n1_ := Aside0.mk (below_step (by repeat (first | (with_reducible first | exact HB.out | apply below_alloc | apply pw_below_drewN | apply below_drew1 | refine below_set ?_ GE384.out) | exact HB.out)) hb); clear BK384; clear HB; have BK384 := n0_; have HB := n1_; clear n0_ n1_; (try clear hb); (try clear hb2); (try clear hk); (try clear hi); have hcz34_0 : w33.cell? ⟨gb384, 0, none⟩ = some (.slice A0_0 l0_0.length c0_0) := (blk_cell BK384.out 0).trans rfl; have hfz34_0 := blk_frozen BK384.out 0) | ((with_reducible refine gate_callee (f := 26) rfl ?_); refine goesL_ (some 14) rfl rfl Tryd.func26 (by kernel_rfl) rfl #[.agg #[.slice A0_0 l0_0.length c0_0]] rfl (by (try simp only [List.map_toArray, List.map_cons, List.map_nil]); first | done | rfl | (simp only [List.length_drop, List.length_take]; rfl)) ?_; (with_reducible refine (pack_Ready.calls k _ _ l0_0 t386 t387 _ ?side1 ?side2 A5.out).mono ?_); (case side1 => repeat (first | exact (Kd.C_below HR0_0.out HB.out) | (with_reducible refine Kd.C_alloc ?_ _) | (with_reducible refine Kd.C_drewN ?_ _) | (with_reducible refine Kd.C_drew ?_))); (case side2 => exact HC0_0.out); rintro e w35 ⟨rfl, hb⟩; refine ⟨_, rfl, ?_⟩; have n0_ := Aside0.mk (blk_below (g := gb384) (o := .cells #[.slice A0_0 l0_0.length c0_0] 24 (0, 0)) (by (with_reducible repeat (first | refine blk_drewN ?_ _ | refine blk_drew ?_ | refine blk_alloc ?_ _)); exact BK384.out) hb); have n1_ := Aside0.mk (below_step (by repeat (first | (with_reducible first | exact HB.out | apply below_alloc | apply pw_below_drewN | apply below_drew1 | refine below_set ?_ GE384.out) | exact HB.out)) hb); clear BK384; clear HB; have BK384 := n0_; have HB := n1_; clear n0_ n1_; (try clear hb); (try clear hb2); (try clear hk); (try clear hi); have hcz36_0 : w35.cell? ⟨gb384, 0, none⟩ = some (.slice A0_0 l0_0.length c0_0) := (blk_cell BK384.out 0).trans rfl; have hfz36_0 := blk_frozen BK384.out 0) | ((with_reducible refine gate_callee (f := 21) rfl ?_); refine goesL_ (some 30) rfl rfl Tryd.func21 (by kernel_rfl) rfl #[.agg #[.slice A0_0 l0_0.length c0_0], .agg #[.int .i64 2, .int .i64 a1, .int .i64 0]] rfl (by (try simp only [List.map_toArray, List.map_cons, List.map_nil]); first | done | rfl | (simp only [List.length_drop, List.length_take]; rfl)) ?_; (with_reducible refine (pack_Apply.calls _ _ l0_0 2 a1 0 t388 t391 t392 _ ?side1 ?side2 A7.out).mono ?_); (case side1 => repeat (first | exact (Kd.C_below HR0_0.out HB.out) | (with_reducible refine Kd.C_alloc ?_ _) | (with_reducible refine Kd.C_drewN ?_ _) | (with_reducible refine Kd.C_drew ?_))); (case side2 => exact HC0_0.out); rintro e w37 ⟨v389, rfl, ho0, hb⟩; refine ⟨_, rfl, ?_⟩; have n0_ := Aside0.mk (Kd.R_lower ho0 (below_size (by repeat (first | (with_reducible first | exact HB.out | apply below_alloc | apply pw_below_drewN | apply below_drew1 | refine below_set ?_ GE384.out) | exact HB.out)))); have n1_ := Aside0.mk (blk_below (g := gb384) (o := .cells #[.slice A0_0 l0_0.length c0_0] 24 (0, 0)) (by (with_reducible repeat (first | refine blk_drewN ?_ _ | refine blk_drew ?_ | refine blk_alloc ?_ _)); exact BK384.out) hb); have n2_ := Aside0.mk (below_step (by repeat (first | (with_reducible first | exact HB.out | apply below_alloc | apply pw_below_drewN | apply below_drew1 | refine below_set ?_ GE384.out) | exact HB.out)) hb); clear BK384; clear HB; have HO390 := n0_; have BK384 := n1_; have HB := n2_; clear n0_ n1_ n2_; (try clear hb); (try clear hb2); (try clear hk); (try clear hi); (try clear ho0)) | ((with_reducible refine gate_dst (N := 7) rfl ?_); (try (refine gate_guard (by rfl) ?_; dsimp only)); refine box_event ?hg (N := 7) ?hd (cs := #[.slice none 0 0]) (t := 24) ?hr ?_; (case hd => rfl); (case hg => rfl); (case hr => first | (go_simp; done) | (go_simp; rfl)); intro gb393 hg w38 hbox hb; have n0_ := Aside0.mk (Kd.R_below (by (with_reducible repeat (first | apply Kd.R_alloc | apply Kd.R_drewN | apply Kd.R_drew)); exact HO390.out) hb); have n1_ := Aside0.mk (blk_below (g := gb384) (o := .cells #[.slice A0_0 l0_0.length c0_0] 24 (0, 0)) (by (with_reducible repeat (first | refine blk_drewN ?_ _ | refine blk_drew ?_ | refine blk_alloc ?_ _)); exact BK384.out) hb); have n2_ := Aside0.mk (below_step (by repeat (first | (with_reducible first | exact HB.out | apply below_alloc | apply pw_below_drewN | apply below_drew1 | refine below_set ?_ GE384.out) | exact HB.out)) hb); have n3_ := Aside0.mk (hbox); have n4_ := Aside0.mk ((by rw [hg]; exact (below_size (by repeat (first | (with_reducible first | exact HB.out | apply below_alloc | apply pw_below_drewN | apply below_drew1 | refine below_set ?_ GE384.out) | exact HB.out))) : w.heap.size ≤ gb393)); have n5_ := Aside0.mk ((by rw [hg]; exact (below_size (by repeat (first | (with_reducible first | exact HB.out | apply below_alloc | apply pw_below_drewN | apply below_drew1 | refine below_set ?_ GE384.out) | exact HB.out))) : w.heap.size ≤ gb393)); have n6_ := Aside0.mk ((by rw [hg]; exact Nat.ne_of_lt (blk_lt (g := gb384) (o := .cells #[.slice A0_0 l0_0.length c0_0] 24 (0, 0)) (by (with_reducible repeat (first | refine blk_drewN ?_ _ | refine blk_drew ?_ | refine blk_alloc ?_ _)); exact BK384.out)) : gb384 ≠ gb393)); have n7_ := Aside0.mk ((by rw [hg]; exact Nat.ne_of_gt (blk_lt (g := gb384) (o := .cells #[.slice A0_0 l0_0.length c0_0] 24 (0, 0)) (by (with_reducible repeat (first | refine blk_drewN ?_ _ | refine blk_drew ?_ | refine blk_alloc ?_ _)); exact BK384.out)) : gb393 ≠ gb384)); clear HO390; clear BK384; clear HB; have HO390 := n0_; have BK384 := n1_; have HB := n2_; have BK393 := n3_; have GW393 := n4_; have GE393 := n5_; have NB384_393 := n6_; have NB393_384 := n7_; clear n0_ n1_ n2_ n3_ n4_ n5_ n6_ n7_; clear hb hbox hg; obtain ⟨Ao39, co39, eo39⟩ := Kd.R_slice HO390.out; subst eo39; have hnb40 := NB393_384.out; have hnc40 := NB384_393.out; have hcz41_0 : w38.cell? ⟨gb393, 0, none⟩ = some (.slice none 0 0) := (blk_cell BK393.out 0).trans rfl; have hfz41_0 := blk_frozen BK393.out 0))
          go_ret
          exact ⟨by first | rfl | (simp [errW_none, errW_some] <;> rfl) | (simp [*, errW_none, errW_some] <;> rfl), by repeat (first | (with_reducible first | exact HB.out | apply below_alloc | apply pw_below_drewN | apply below_drew1 | refine below_set ?_ GE384.out | refine below_set ?_ GE393.out) | exact HB.out)⟩
        · rw [if_neg c31] at H
          have c31b0 : (t392 == 2) = false := beq_eq_false_iff_ne.mpr c31
          have c31b1 : (t392 != 2) = true := bne_iff_ne.mpr c31
          obtain rfl := Option.some.inj H
          go_enter Tryd.func6, Tryd.ntmps6
          go_wp2_with (first | ((with_reducible refine gate_dst (N := 2) rfl ?_); (try (refine gate_guard (by rfl) ?_; dsimp only)); refine box_event ?hg (N := 2) ?hd (cs := #[.slice A0_0 l0_0.length c0_0]) (t := 24) ?hr ?_; (case hd => rfl); (case hg => rfl); (case hr => first | (go_simp; done) | (go_simp; rfl)); intro gb384 hg w42 hbox hb; have n0_ := Aside0.mk (below_step (by repeat (first | (with_reducible first | exact HB.out | apply below_alloc | apply pw_below_drewN | apply below_drew1) | exact HB.out)) hb); have n1_ := Aside0.mk (hbox); have n2_ := Aside0.mk ((by rw [hg]; exact (below_size (by repeat (first | (with_reducible first | exact HB.out | apply below_alloc | apply pw_below_drewN | apply below_drew1) | exact HB.out))) : w.heap.size ≤ gb384)); have n3_ := Aside0.mk ((by rw [hg]; exact (below_size (by repeat (first | (with_reducible first | exact HB.out | apply below_alloc | apply pw_below_drewN | apply below_drew1) | exact HB.out))) : w.heap.size ≤ gb384)); clear HB; have HB := n0_; have BK384 := n1_; have GW384 := n2_; have GE384 := n3_; clear n0_ n1_ n2_ n3_; clear hb hbox hg) | ((with_reducible refine gate_callee (f := 18) rfl ?_); refine goesL_ (some 10) rfl rfl Tryd.func18 (by kernel_rfl) rfl #[] rfl (by (try simp only [List.map_toArray, List.map_cons, List.map_nil]); first | done | rfl | (simp only [List.length_drop, List.length_take]; rfl)) ?_; (with_reducible refine (snowlinelaw02_sane.calls k  true _ ?hgl_ A3.out).mono ?_); (case hgl_ => exact HGl.out.below (by repeat (first | (with_reducible first | exact HB.out | apply below_alloc | apply pw_below_drewN | apply below_drew1 | refine below_set ?_ GE384.out) | exact HB.out)) (Nat.le_refl _)); rintro e w43 ⟨rfl, hb⟩; refine ⟨_, rfl, ?_⟩; have n0_ := Aside0.mk (blk_below (g := gb384) (o := .cells #[.slice A0_0 l0_0.length c0_0] 24 (0, 0)) (by (with_reducible repeat (first | refine blk_drewN ?_ _ | refine blk_drew ?_ | refine blk_alloc ?_ _)); exact BK384.out) hb); have n1_ := Aside0.mk (below_step (by repeat (first | (with_reducible first | exact HB.out | apply below_alloc | apply pw_below_drewN | apply below_drew1 | refine below_set ?_ GE384.out) | exact HB.out)) hb); clear BK384; clear HB; have BK384 := n0_; have HB := n1_; clear n0_ n1_; (try clear hb); (try clear hb2); (try clear hk); (try clear hi); have hcz44_0 : w43.cell? ⟨gb384, 0, none⟩ = some (.slice A0_0 l0_0.length c0_0) := (blk_cell BK384.out 0).trans rfl; have hfz44_0 := blk_frozen BK384.out 0) | ((with_reducible refine gate_callee (f := 26) rfl ?_); refine goesL_ (some 14) rfl rfl Tryd.func26 (by kernel_rfl) rfl #[.agg #[.slice A0_0 l0_0.length c0_0]] rfl (by (try simp only [List.map_toArray, List.map_cons, List.map_nil]); first | done | rfl | (simp only [List.length_drop, List.length_take]; rfl)) ?_; (with_reducible refine (pack_Ready.calls k _ _ l0_0 t386 t387 _ ?side1 ?side2 A5.out).mono ?_); (case side1 => repeat (first | exact (Kd.C_below HR0_0.out HB.out) | (with_reducible refine Kd.C_alloc ?_ _) | (with_reducible refine Kd.C_drewN ?_ _) | (with_reducible refine Kd.C_drew ?_))); (case side2 => exact HC0_0.out); rintro e w45 ⟨rfl, hb⟩; refine ⟨_, rfl, ?_⟩; have n0_ := Aside0.mk (blk_below (g := gb384) (o := .cells #[.slice A0_0 l0_0.length c0_0] 24 (0, 0)) (by (with_reducible repeat (first | refine blk_drewN ?_ _ | refine blk_drew ?_ | refine blk_alloc ?_ _)); exact BK384.out) hb); have n1_ := Aside0.mk (below_step (by repeat (first | (with_reducible first | exact HB.out | apply below_alloc | apply pw_below_drewN | apply below_drew1 | refine below_set ?_ GE384.out) | exact HB.out)) hb); clear BK384; clear HB; have BK384 := n0_; have HB := n1_; clear n0_ n1_; (try clear hb); (try clear hb2); (try clear hk); (try clear hi); have hcz46_0 : w45.cell? ⟨gb384, 0, none⟩ = some (.slice A0_0 l0_0.length c0_0) := (blk_cell BK384.out 0).trans rfl; have hfz46_0 := blk_frozen BK384.out 0) | ((with_reducible refine gate_callee (f := 21) rfl ?_); refine goesL_ (some 30) rfl rfl Tryd.func21 (by kernel_rfl) rfl #[.agg #[.slice A0_0 l0_0.length c0_0], .agg #[.int .i64 2, .int .i64 a1, .int .i64 0]] rfl (by (try simp only [List.map_toArray, List.map_cons, List.map_nil]); first | done | rfl | (simp only [List.length_drop, List.length_take]; rfl)) ?_; (with_reducible refine (pack_Apply.calls _ _ l0_0 2 a1 0 t388 t391 t392 _ ?side1 ?side2 A7.out).mono ?_); (case side1 => repeat (first | exact (Kd.C_below HR0_0.out HB.out) | (with_reducible refine Kd.C_alloc ?_ _) | (with_reducible refine Kd.C_drewN ?_ _) | (with_reducible refine Kd.C_drew ?_))); (case side2 => exact HC0_0.out); rintro e w47 ⟨v389, rfl, ho0, hb⟩; refine ⟨_, rfl, ?_⟩; have n0_ := Aside0.mk (Kd.R_lower ho0 (below_size (by repeat (first | (with_reducible first | exact HB.out | apply below_alloc | apply pw_below_drewN | apply below_drew1 | refine below_set ?_ GE384.out) | exact HB.out)))); have n1_ := Aside0.mk (blk_below (g := gb384) (o := .cells #[.slice A0_0 l0_0.length c0_0] 24 (0, 0)) (by (with_reducible repeat (first | refine blk_drewN ?_ _ | refine blk_drew ?_ | refine blk_alloc ?_ _)); exact BK384.out) hb); have n2_ := Aside0.mk (below_step (by repeat (first | (with_reducible first | exact HB.out | apply below_alloc | apply pw_below_drewN | apply below_drew1 | refine below_set ?_ GE384.out) | exact HB.out)) hb); clear BK384; clear HB; have HO390 := n0_; have BK384 := n1_; have HB := n2_; clear n0_ n1_ n2_; (try clear hb); (try clear hb2); (try clear hk); (try clear hi); (try clear ho0)) | ((with_reducible refine gate_dst (N := 7) rfl ?_); (try (refine gate_guard (by rfl) ?_; dsimp only)); refine box_event ?hg (N := 7) ?hd (cs := #[.slice none 0 0]) (t := 24) ?hr ?_; (case hd => rfl); (case hg => rfl); (case hr => first | (go_simp; done) | (go_simp; rfl)); intro gb393 hg w48 hbox hb; have n0_ := Aside0.mk (Kd.R_below (by (with_reducible repeat (first | apply Kd.R_alloc | apply Kd.R_drewN | apply Kd.R_drew)); exact HO390.out) hb); have n1_ := Aside0.mk (blk_below (g := gb384) (o := .cells #[.slice A0_0 l0_0.length c0_0] 24 (0, 0)) (by (with_reducible repeat (first | refine blk_drewN ?_ _ | refine blk_drew ?_ | refine blk_alloc ?_ _)); exact BK384.out) hb); have n2_ := Aside0.mk (below_step (by repeat (first | (with_reducible first | exact HB.out | apply below_alloc | apply pw_below_drewN | apply below_drew1 | refine below_set ?_ GE384.out) | exact HB.out)) hb); have n3_ := Aside0.mk (hbox); have n4_ := Aside0.mk ((by rw [hg]; exact (below_size (by repeat (first | (with_reducible first | exact HB.out | apply below_alloc | apply pw_below_drewN | apply below_drew1 | refine below_set ?_ GE384.out) | exact HB.out))) : w.heap.size ≤ gb393)); have n5_ := Aside0.mk ((by rw [hg]; exact (below_size (by repeat (first | (with_reducible first | exact HB.out | apply below_alloc | apply pw_below_drewN | apply below_drew1 | refine below_set ?_ GE384.out) | exact HB.out))) : w.heap.size ≤ gb393)); have n6_ := Aside0.mk ((by rw [hg]; exact Nat.ne_of_lt (blk_lt (g := gb384) (o := .cells #[.slice A0_0 l0_0.length c0_0] 24 (0, 0)) (by (with_reducible repeat (first | refine blk_drewN ?_ _ | refine blk_drew ?_ | refine blk_alloc ?_ _)); exact BK384.out)) : gb384 ≠ gb393)); have n7_ := Aside0.mk ((by rw [hg]; exact Nat.ne_of_gt (blk_lt (g := gb384) (o := .cells #[.slice A0_0 l0_0.length c0_0] 24 (0, 0)) (by (with_reducible repeat (first | refine blk_drewN ?_ _ | refine blk_drew ?_ | refine blk_alloc ?_ _)); exact BK384.out)) : gb393 ≠ gb384)); clear HO390; clear BK384; clear HB; have HO390 := n0_; have BK384 := n1_; have HB := n2_; have BK393 := n3_; have GW393 := n4_; have GE393 := n5_; have NB384_393 := n6_; have NB393_384 := n7_; clear n0_ n1_ n2_ n3_ n4_ n5_ n6_ n7_; clear hb hbox hg; obtain ⟨Ao49, co49, eo49⟩ := Kd.R_slice HO390.out; subst eo49; have hnb50 := NB393_384.out; have hnc50 := NB384_393.out; have hcz51_0 : w48.cell? ⟨gb393, 0, none⟩ = some (.slice none 0 0) := (blk_cell BK393.out 0).trans rfl; have hfz51_0 := blk_frozen BK393.out 0))
          go_ret
          exact ⟨by first | rfl | (simp [errW_none, errW_some] <;> rfl) | (simp [*, errW_none, errW_some] <;> rfl), by repeat (first | (with_reducible first | exact HB.out | apply below_alloc | apply pw_below_drewN | apply below_drew1 | refine below_set ?_ GE384.out | refine below_set ?_ GE393.out) | exact HB.out)⟩
    · rw [if_neg c6] at H
      have c6b0 : (t387 == 0) = false := beq_eq_false_iff_ne.mpr c6
      have c6b1 : (t387 != 0) = true := bne_iff_ne.mpr c6
      by_cases c52 : t386 = 0
      · rw [if_pos c52] at H
        have c52b0 : (t386 == 0) = true := beq_iff_eq.mpr c52
        have c52b1 : (t386 != 0) = false := bne_eq_false_iff_eq.mpr c52
        clear c52
        replace H := Option.bind_eq_some_iff.mp H
        obtain ⟨t394, A530, H⟩ := H
        replace H : (some (t394 != 0)) = some r := H
        have A53 := Aside0.mk A530
        clear A530
        obtain rfl := Option.some.inj H
        go_enter Tryd.func6, Tryd.ntmps6
        go_wp2_with (first | ((with_reducible refine gate_dst (N := 2) rfl ?_); (try (refine gate_guard (by rfl) ?_; dsimp only)); refine box_event ?hg (N := 2) ?hd (cs := #[.slice A0_0 l0_0.length c0_0]) (t := 24) ?hr ?_; (case hd => rfl); (case hg => rfl); (case hr => first | (go_simp; done) | (go_simp; rfl)); intro gb384 hg w54 hbox hb; have n0_ := Aside0.mk (below_step (by repeat (first | (with_reducible first | exact HB.out | apply below_alloc | apply pw_below_drewN | apply below_drew1) | exact HB.out)) hb); have n1_ := Aside0.mk (hbox); have n2_ := Aside0.mk ((by rw [hg]; exact (below_size (by repeat (first | (with_reducible first | exact HB.out | apply below_alloc | apply pw_below_drewN | apply below_drew1) | exact HB.out))) : w.heap.size ≤ gb384)); have n3_ := Aside0.mk ((by rw [hg]; exact (below_size (by repeat (first | (with_reducible first | exact HB.out | apply below_alloc | apply pw_below_drewN | apply below_drew1) | exact HB.out))) : w.heap.size ≤ gb384)); clear HB; have HB := n0_; have BK384 := n1_; have GW384 := n2_; have GE384 := n3_; clear n0_ n1_ n2_ n3_; clear hb hbox hg) | ((with_reducible refine gate_callee (f := 18) rfl ?_); refine goesL_ (some 10) rfl rfl Tryd.func18 (by kernel_rfl) rfl #[] rfl (by (try simp only [List.map_toArray, List.map_cons, List.map_nil]); first | done | rfl | (simp only [List.length_drop, List.length_take]; rfl)) ?_; (with_reducible refine (snowlinelaw02_sane.calls k  true _ ?hgl_ A3.out).mono ?_); (case hgl_ => exact HGl.out.below (by repeat (first | (with_reducible first | exact HB.out | apply below_alloc | apply pw_below_drewN | apply below_drew1 | refine below_set ?_ GE384.out) | exact HB.out)) (Nat.le_refl _)); rintro e w55 ⟨rfl, hb⟩; refine ⟨_, rfl, ?_⟩; have n0_ := Aside0.mk (blk_below (g := gb384) (o := .cells #[.slice A0_0 l0_0.length c0_0] 24 (0, 0)) (by (with_reducible repeat (first | refine blk_drewN ?_ _ | refine blk_drew ?_ | refine blk_alloc ?_ _)); exact BK384.out) hb); have n1_ := Aside0.mk (below_step (by repeat (first | (with_reducible first | exact HB.out | apply below_alloc | apply pw_below_drewN | apply below_drew1 | refine below_set ?_ GE384.out) | exact HB.out)) hb); clear BK384; clear HB; have BK384 := n0_; have HB := n1_; clear n0_ n1_; (try clear hb); (try clear hb2); (try clear hk); (try clear hi); have hcz56_0 : w55.cell? ⟨gb384, 0, none⟩ = some (.slice A0_0 l0_0.length c0_0) := (blk_cell BK384.out 0).trans rfl; have hfz56_0 := blk_frozen BK384.out 0) | ((with_reducible refine gate_callee (f := 26) rfl ?_); refine goesL_ (some 14) rfl rfl Tryd.func26 (by kernel_rfl) rfl #[.agg #[.slice A0_0 l0_0.length c0_0]] rfl (by (try simp only [List.map_toArray, List.map_cons, List.map_nil]); first | done | rfl | (simp only [List.length_drop, List.length_take]; rfl)) ?_; (with_reducible refine (pack_Ready.calls k _ _ l0_0 t386 t387 _ ?side1 ?side2 A5.out).mono ?_); (case side1 => repeat (first | exact (Kd.C_below HR0_0.out HB.out) | (with_reducible refine Kd.C_alloc ?_ _) | (with_reducible refine Kd.C_drewN ?_ _) | (with_reducible refine Kd.C_drew ?_))); (case side2 => exact HC0_0.out); rintro e w57 ⟨rfl, hb⟩; refine ⟨_, rfl, ?_⟩; have n0_ := Aside0.mk (blk_below (g := gb384) (o := .cells #[.slice A0_0 l0_0.length c0_0] 24 (0, 0)) (by (with_reducible repeat (first | refine blk_drewN ?_ _ | refine blk_drew ?_ | refine blk_alloc ?_ _)); exact BK384.out) hb); have n1_ := Aside0.mk (below_step (by repeat (first | (with_reducible first | exact HB.out | apply below_alloc | apply pw_below_drewN | apply below_drew1 | refine below_set ?_ GE384.out) | exact HB.out)) hb); clear BK384; clear HB; have BK384 := n0_; have HB := n1_; clear n0_ n1_; (try clear hb); (try clear hb2); (try clear hk); (try clear hi); have hcz58_0 : w57.cell? ⟨gb384, 0, none⟩ = some (.slice A0_0 l0_0.length c0_0) := (blk_cell BK384.out 0).trans rfl; have hfz58_0 := blk_frozen BK384.out 0) | (go_at_call 25; (with_reducible refine (pack_Check.calls k _ _ l0_0 t394 _ ?side1 ?side2 A53.out).mono ?_); (case side1 => repeat (first | exact (Kd.C_below HR0_0.out HB.out) | (with_reducible refine Kd.C_alloc ?_ _) | (with_reducible refine Kd.C_drewN ?_ _) | (with_reducible refine Kd.C_drew ?_))); (case side2 => exact HC0_0.out); rintro e w59 ⟨rfl, hb⟩; have n0_ := Aside0.mk (blk_below (g := gb384) (o := .cells #[.slice A0_0 l0_0.length c0_0] 24 (0, 0)) (by (with_reducible repeat (first | refine blk_drewN ?_ _ | refine blk_drew ?_ | refine blk_alloc ?_ _)); exact BK384.out) hb); have n1_ := Aside0.mk (below_step (by repeat (first | (with_reducible first | exact HB.out | apply below_alloc | apply pw_below_drewN | apply below_drew1 | refine below_set ?_ GE384.out) | exact HB.out)) hb); clear BK384; clear HB; have BK384 := n0_; have HB := n1_; clear n0_ n1_; (try clear hb); (try clear hb2); (try clear hk); (try clear hi)))
        go_ret
        exact ⟨by first | rfl | (simp [errW_none, errW_some] <;> rfl) | (simp [*, errW_none, errW_some] <;> rfl), by repeat (first | (with_reducible first | exact HB.out | apply below_alloc | apply pw_below_drewN | apply below_drew1 | refine below_set ?_ GE384.out) | exact HB.out)⟩
      · rw [if_neg c52] at H
        have c52b0 : (t386 == 0) = false := beq_eq_false_iff_ne.mpr c52
        have c52b1 : (t386 != 0) = true := bne_iff_ne.mpr c52
        obtain rfl := Option.some.inj H
        go_enter Tryd.func6, Tryd.ntmps6
        go_wp2_with (first | ((with_reducible refine gate_dst (N := 2) rfl ?_); (try (refine gate_guard (by rfl) ?_; dsimp only)); refine box_event ?hg (N := 2) ?hd (cs := #[.slice A0_0 l0_0.length c0_0]) (t := 24) ?hr ?_; (case hd => rfl); (case hg => rfl); (case hr => first | (go_simp; done) | (go_simp; rfl)); intro gb384 hg w60 hbox hb; have n0_ := Aside0.mk (below_step (by repeat (first | (with_reducible first | exact HB.out | apply below_alloc | apply pw_below_drewN | apply below_drew1) | exact HB.out)) hb); have n1_ := Aside0.mk (hbox); have n2_ := Aside0.mk ((by rw [hg]; exact (below_size (by repeat (first | (with_reducible first | exact HB.out | apply below_alloc | apply pw_below_drewN | apply below_drew1) | exact HB.out))) : w.heap.size ≤ gb384)); have n3_ := Aside0.mk ((by rw [hg]; exact (below_size (by repeat (first | (with_reducible first | exact HB.out | apply below_alloc | apply pw_below_drewN | apply below_drew1) | exact HB.out))) : w.heap.size ≤ gb384)); clear HB; have HB := n0_; have BK384 := n1_; have GW384 := n2_; have GE384 := n3_; clear n0_ n1_ n2_ n3_; clear hb hbox hg) | ((with_reducible refine gate_callee (f := 18) rfl ?_); refine goesL_ (some 10) rfl rfl Tryd.func18 (by kernel_rfl) rfl #[] rfl (by (try simp only [List.map_toArray, List.map_cons, List.map_nil]); first | done | rfl | (simp only [List.length_drop, List.length_take]; rfl)) ?_; (with_reducible refine (snowlinelaw02_sane.calls k  true _ ?hgl_ A3.out).mono ?_); (case hgl_ => exact HGl.out.below (by repeat (first | (with_reducible first | exact HB.out | apply below_alloc | apply pw_below_drewN | apply below_drew1 | refine below_set ?_ GE384.out) | exact HB.out)) (Nat.le_refl _)); rintro e w61 ⟨rfl, hb⟩; refine ⟨_, rfl, ?_⟩; have n0_ := Aside0.mk (blk_below (g := gb384) (o := .cells #[.slice A0_0 l0_0.length c0_0] 24 (0, 0)) (by (with_reducible repeat (first | refine blk_drewN ?_ _ | refine blk_drew ?_ | refine blk_alloc ?_ _)); exact BK384.out) hb); have n1_ := Aside0.mk (below_step (by repeat (first | (with_reducible first | exact HB.out | apply below_alloc | apply pw_below_drewN | apply below_drew1 | refine below_set ?_ GE384.out) | exact HB.out)) hb); clear BK384; clear HB; have BK384 := n0_; have HB := n1_; clear n0_ n1_; (try clear hb); (try clear hb2); (try clear hk); (try clear hi); have hcz62_0 : w61.cell? ⟨gb384, 0, none⟩ = some (.slice A0_0 l0_0.length c0_0) := (blk_cell BK384.out 0).trans rfl; have hfz62_0 := blk_frozen BK384.out 0) | ((with_reducible refine gate_callee (f := 26) rfl ?_); refine goesL_ (some 14) rfl rfl Tryd.func26 (by kernel_rfl) rfl #[.agg #[.slice A0_0 l0_0.length c0_0]] rfl (by (try simp only [List.map_toArray, List.map_cons, List.map_nil]); first | done | rfl | (simp only [List.length_drop, List.length_take]; rfl)) ?_; (with_reducible refine (pack_Ready.calls k _ _ l0_0 t386 t387 _ ?side1 ?side2 A5.out).mono ?_); (case side1 => repeat (first | exact (Kd.C_below HR0_0.out HB.out) | (with_reducible refine Kd.C_alloc ?_ _) | (with_reducible refine Kd.C_drewN ?_ _) | (with_reducible refine Kd.C_drew ?_))); (case side2 => exact HC0_0.out); rintro e w63 ⟨rfl, hb⟩; refine ⟨_, rfl, ?_⟩; have n0_ := Aside0.mk (blk_below (g := gb384) (o := .cells #[.slice A0_0 l0_0.length c0_0] 24 (0, 0)) (by (with_reducible repeat (first | refine blk_drewN ?_ _ | refine blk_drew ?_ | refine blk_alloc ?_ _)); exact BK384.out) hb); have n1_ := Aside0.mk (below_step (by repeat (first | (with_reducible first | exact HB.out | apply below_alloc | apply pw_below_drewN | apply below_drew1 | refine below_set ?_ GE384.out) | exact HB.out)) hb); clear BK384; clear HB; have BK384 := n0_; have HB := n1_; clear n0_ n1_; (try clear hb); (try clear hb2); (try clear hk); (try clear hi)))
        go_ret
        exact ⟨by first | rfl | (simp [errW_none, errW_some] <;> rfl) | (simp [*, errW_none, errW_some] <;> rfl), by repeat (first | (with_reducible first | exact HB.out | apply below_alloc | apply pw_below_drewN | apply below_drew1 | refine below_set ?_ GE384.out) | exact HB.out)⟩
  · replace c4 := Bool.eq_false_iff.mpr c4
    subst c4
    have H1 : (some false) = some r := by rw [if_neg (show ¬ (false = true) by decide)] at H; exact H
    clear H
    have H := H1
    clear H1
    obtain rfl := Option.some.inj H
    go_enter Tryd.func6, Tryd.ntmps6
    go_wp2_with (first | ((with_reducible refine gate_dst (N := 2) rfl ?_); (try (refine gate_guard (by rfl) ?_; dsimp only)); refine box_event ?hg (N := 2) ?hd (cs := #[.slice A0_0 l0_0.length c0_0]) (t := 24) ?hr ?_; (case hd => rfl); (case hg => rfl); (case hr => first | (go_simp; done) | (go_simp; rfl)); intro gb384 hg w64 hbox hb; have n0_ := Aside0.mk (below_step (by repeat (first | (with_reducible first | exact HB.out | apply below_alloc | apply pw_below_drewN | apply below_drew1) | exact HB.out)) hb); have n1_ := Aside0.mk (hbox); have n2_ := Aside0.mk ((by rw [hg]; exact (below_size (by repeat (first | (with_reducible first | exact HB.out | apply below_alloc | apply pw_below_drewN | apply below_drew1) | exact HB.out))) : w.heap.size ≤ gb384)); have n3_ := Aside0.mk ((by rw [hg]; exact (below_size (by repeat (first | (with_reducible first | exact HB.out | apply below_alloc | apply pw_below_drewN | apply below_drew1) | exact HB.out))) : w.heap.size ≤ gb384)); clear HB; have HB := n0_; have BK384 := n1_; have GW384 := n2_; have GE384 := n3_; clear n0_ n1_ n2_ n3_; clear hb hbox hg) | ((with_reducible refine gate_callee (f := 18) rfl ?_); refine goesL_ (some 10) rfl rfl Tryd.func18 (by kernel_rfl) rfl #[] rfl (by (try simp only [List.map_toArray, List.map_cons, List.map_nil]); first | done | rfl | (simp only [List.length_drop, List.length_take]; rfl)) ?_; (with_reducible refine (snowlinelaw02_sane.calls k  false _ ?hgl_ A3.out).mono ?_); (case hgl_ => exact HGl.out.below (by repeat (first | (with_reducible first | exact HB.out | apply below_alloc | apply pw_below_drewN | apply below_drew1 | refine below_set ?_ GE384.out) | exact HB.out)) (Nat.le_refl _)); rintro e w65 ⟨rfl, hb⟩; refine ⟨_, rfl, ?_⟩; have n0_ := Aside0.mk (blk_below (g := gb384) (o := .cells #[.slice A0_0 l0_0.length c0_0] 24 (0, 0)) (by (with_reducible repeat (first | refine blk_drewN ?_ _ | refine blk_drew ?_ | refine blk_alloc ?_ _)); exact BK384.out) hb); have n1_ := Aside0.mk (below_step (by repeat (first | (with_reducible first | exact HB.out | apply below_alloc | apply pw_below_drewN | apply below_drew1 | refine below_set ?_ GE384.out) | exact HB.out)) hb); clear BK384; clear HB; have BK384 := n0_; have HB := n1_; clear n0_ n1_; (try clear hb); (try clear hb2); (try clear hk); (try clear hi)))
    go_ret
    exact ⟨by first | rfl | (simp [errW_none, errW_some] <;> rfl) | (simp [*, errW_none, errW_some] <;> rfl), by repeat (first | (with_reducible first | exact HB.out | apply below_alloc | apply pw_below_drewN | apply below_drew1 | refine below_set ?_ GE384.out) | exact HB.out)⟩
end Go.Proofs.YtpldcikmlpegpaaDoor.PB
end
section
namespace Go.Proofs.YtpldcikmlpegpaaDoor.Plain
open Go.RowKit Go.Proofs.YtpldcikmlpegpaaDoor.PB
abbrev Ly := S48
@[ext] theorem Ly.ext' {a b : Ly} (h0 : a.f0 = b.f0) (h1 : a.f1 = b.f1) (h2 : a.f2 = b.f2) : a = b := by
  cases a; cases b; simp_all
def Fit (l : Ly) : Prop := 0 ≤ l.f0 ∧ 0 ≤ l.f1 ∧ l.f1 ≤ l.f0 / 20 ∧ 0 ≤ l.f2
def Fits (ls : List Ly) : Prop := ∀ l ∈ ls, Fit l
theorem Fits.nil : Fits [] := by intro l h; cases h
theorem Fits.cons {l : Ly} {ls : List Ly} (h : Fit l) (hs : Fits ls) : Fits (l :: ls) := by
  intro x hx
  rcases List.mem_cons.mp hx with rfl | hx
  · exact h
  · exact hs x hx
theorem Fits.head {l : Ly} {ls : List Ly} (h : Fits (l :: ls)) : Fit l := h l List.mem_cons_self
theorem Fits.tail {l : Ly} {ls : List Ly} (h : Fits (l :: ls)) : Fits ls := fun x hx => h x (List.mem_cons_of_mem _ hx)
def water : List Ly → Int
  | [] => 0
  | l :: ls => l.f0 + l.f1 + water ls
def cold : List Ly → Int
  | [] => 0
  | l :: ls => l.f2 + cold ls
theorem water_nonneg {ls : List Ly} (h : Fits ls) : 0 ≤ water ls := by
  induction ls with
  | nil => exact Int.le_refl _
  | cons l ls ih =>
    have := ih h.tail
    obtain ⟨a, b, c, d⟩ := h.head
    simp only [water]
    omega
theorem cold_nonneg {ls : List Ly} (h : Fits ls) : 0 ≤ cold ls := by
  induction ls with
  | nil => exact Int.le_refl _
  | cons l ls ih =>
    have := ih h.tail
    obtain ⟨a, b, c, d⟩ := h.head
    simp only [cold]
    omega
def into (l : Ly) (m : Int) : Ly × Int :=
  let fr := min m l.f2
  let kept := min (m - fr) ((l.f0 + fr) / 20 - l.f1)
  (⟨l.f0 + fr, l.f1 + kept, l.f2 - fr⟩, m - fr - kept)
def flow : List Ly → Int → List Ly × Int
  | [], m => ([], m)
  | l :: ls, m => if 0 < m then ((into l m).1 :: (flow ls (into l m).2).1, (flow ls (into l m).2).2) else (l :: ls, m)
theorem into_fit {l : Ly} {m : Int} (h : Fit l) (hm : 0 ≤ m) : Fit (into l m).1 ∧ 0 ≤ (into l m).2 := by
  obtain ⟨a, b, c, d⟩ := h
  simp only [into, Fit]
  omega
theorem into_water (l : Ly) (m : Int) : (into l m).1.f0 + (into l m).1.f1 + (into l m).2 = l.f0 + l.f1 + m := by
  simp only [into]; omega
theorem into_cold {l : Ly} {m : Int} (h : Fit l) (hm : 0 ≤ m) : (into l m).1.f2 ≤ l.f2 ∧ l.f0 ≤ (into l m).1.f0 := by
  obtain ⟨a, b, c, d⟩ := h
  simp only [into]
  omega
theorem flow_fit {ls : List Ly} : ∀ {m : Int}, Fits ls → 0 ≤ m → Fits (flow ls m).1 ∧ 0 ≤ (flow ls m).2 := by
  induction ls with
  | nil => intro m h hm; exact ⟨Fits.nil, hm⟩
  | cons l ls ih =>
    intro m h hm
    simp only [flow]
    split
    · obtain ⟨f, r⟩ := into_fit h.head hm
      obtain ⟨g, s⟩ := ih h.tail r
      exact ⟨Fits.cons f g, s⟩
    · exact ⟨h, hm⟩
theorem flow_water (ls : List Ly) : ∀ (m : Int), water (flow ls m).1 + (flow ls m).2 = water ls + m := by
  induction ls with
  | nil => intro m; simp [flow, water]
  | cons l ls ih =>
    intro m
    simp only [flow]
    split
    · have := ih (into l m).2
      have := into_water l m
      simp only [water]
      omega
    · simp only [water]
theorem flow_cold {ls : List Ly} : ∀ {m : Int}, Fits ls → 0 ≤ m → cold (flow ls m).1 ≤ cold ls := by
  induction ls with
  | nil => intro m h hm; exact Int.le_refl _
  | cons l ls ih =>
    intro m h hm
    simp only [flow]
    split
    · have := ih h.tail (into_fit h.head hm).2
      have := (into_cold h.head hm).1
      simp only [cold]
      omega
    · exact Int.le_refl _
theorem flow_length (ls : List Ly) : ∀ (m : Int), (flow ls m).1.length = ls.length := by
  induction ls with
  | nil => intro m; rfl
  | cons l ls ih =>
    intro m
    simp only [flow]
    split
    · simp [ih]
    · rfl
end Go.Proofs.YtpldcikmlpegpaaDoor.Plain
end
section
namespace Go.Proofs.YtpldcikmlpegpaaDoor.Plain
open Go.RowKit Go.Proofs.YtpldcikmlpegpaaDoor.PB
def lose1 (l : Ly) (ls : List Ly) (more : Int) : List Ly × Int :=
  let wet := min (l.f1 + more) ((l.f0 - 1) / 20)
  let r := flow ls (l.f1 + more - wet)
  if l.f0 - 1 = 0 then r else (⟨l.f0 - 1, wet, l.f2⟩ :: r.1, r.2)
def vanish1 : List Ly → List Ly × Int
  | [] => ([], 0)
  | l :: ls => lose1 l ls 0
def melt1 : List Ly → List Ly × Int
  | [] => ([], 0)
  | l :: ls => if 0 < l.f2 then (⟨l.f0, l.f1, l.f2 - 1⟩ :: ls, 0) else lose1 l ls 1
def times (f : List Ly → List Ly × Int) : Nat → List Ly → List Ly × Int × Int
  | 0, L => (L, 0, 0)
  | _ + 1, [] => ([], 0, 0)
  | n + 1, l :: ls => ((times f n (f (l :: ls)).1).1, (f (l :: ls)).2 + (times f n (f (l :: ls)).1).2.1, 1 + (times f n (f (l :: ls)).1).2.2)
def Live (ls : List Ly) : Prop := ∀ l ∈ ls, Fit l ∧ 1 ≤ l.f0
theorem Live.fits {ls : List Ly} (h : Live ls) : Fits ls := fun l hl => (h l hl).1
theorem Live.nil : Live [] := by intro l h; cases h
theorem Live.cons {l : Ly} {ls : List Ly} (h : Fit l) (h1 : 1 ≤ l.f0) (hs : Live ls) : Live (l :: ls) := by
  intro x hx
  rcases List.mem_cons.mp hx with rfl | hx
  · exact ⟨h, h1⟩
  · exact hs x hx
theorem Live.head {l : Ly} {ls : List Ly} (h : Live (l :: ls)) : Fit l ∧ 1 ≤ l.f0 := h l List.mem_cons_self
theorem Live.tail {l : Ly} {ls : List Ly} (h : Live (l :: ls)) : Live ls := fun x hx => h x (List.mem_cons_of_mem _ hx)
theorem flow_live {ls : List Ly} : ∀ {m : Int}, Live ls → 0 ≤ m → Live (flow ls m).1 := by
  induction ls with
  | nil => intro m h hm; exact Live.nil
  | cons l ls ih =>
    intro m h hm
    simp only [flow]
    split
    · obtain ⟨f, r⟩ := into_fit h.head.1 hm
      have := (into_cold h.head.1 hm).2
      exact Live.cons f (by have := h.head.2; omega) (ih h.tail r)
    · exact h
theorem lose1_rest {l : Ly} {more : Int} (h : Fit l) (h1 : 1 ≤ l.f0) (hm : 0 ≤ more) : 0 ≤ l.f1 + more - min (l.f1 + more) ((l.f0 - 1) / 20) ∧ 0 ≤ min (l.f1 + more) ((l.f0 - 1) / 20) := by
  obtain ⟨a, b, c, d⟩ := h
  omega
theorem lose1_live {l : Ly} {ls : List Ly} {more : Int} (h : Live (l :: ls)) (hm : 0 ≤ more) : Live (lose1 l ls more).1 ∧ 0 ≤ (lose1 l ls more).2 := by
  obtain ⟨f, h1⟩ := h.head
  obtain ⟨r0, w0⟩ := lose1_rest f h1 hm
  have g := flow_fit h.tail.fits r0
  have g' := flow_live h.tail r0
  simp only [lose1]
  split
  · exact ⟨g', g.2⟩
  · refine ⟨Live.cons ?_ ?_ g', g.2⟩
    · obtain ⟨a, b, c, d⟩ := f
      simp only [Fit]
      omega
    · dsimp only
      omega
theorem lose1_water {l : Ly} {ls : List Ly} {more : Int} (h : Live (l :: ls)) (hm : 0 ≤ more) : water (lose1 l ls more).1 + (lose1 l ls more).2 = water (l :: ls) - 1 + more := by
  obtain ⟨f, h1⟩ := h.head
  have g := flow_water ls (l.f1 + more - min (l.f1 + more) ((l.f0 - 1) / 20))
  obtain ⟨a, b, c, d⟩ := f
  simp only [lose1]
  split
  · simp only [water]
    omega
  · simp only [water]
    omega
theorem lose1_cold {l : Ly} {ls : List Ly} {more : Int} (h : Live (l :: ls)) (hm : 0 ≤ more) : cold (lose1 l ls more).1 ≤ cold (l :: ls) := by
  obtain ⟨f, h1⟩ := h.head
  obtain ⟨r0, w0⟩ := lose1_rest f h1 hm
  have g := flow_cold h.tail.fits r0
  obtain ⟨a, b, c, d⟩ := f
  simp only [lose1]
  split
  · simp only [cold]; omega
  · simp only [cold]; omega
structure Round (f : List Ly → List Ly × Int) (d : Int) : Prop where
  live : ∀ {l ls}, Live (l :: ls) → Live (f (l :: ls)).1 ∧ 0 ≤ (f (l :: ls)).2
  water : ∀ {l ls}, Live (l :: ls) → water (f (l :: ls)).1 + (f (l :: ls)).2 + d = water (l :: ls)
  cold : ∀ {l ls}, Live (l :: ls) → cold (f (l :: ls)).1 ≤ cold (l :: ls)
  len : ∀ {l ls}, Live (l :: ls) → (f (l :: ls)).1.length ≤ (l :: ls).length
theorem lose1_len (l : Ly) (ls : List Ly) (more : Int) : (lose1 l ls more).1.length ≤ (l :: ls).length := by
  simp only [lose1]
  split <;> simp [flow_length]
theorem vanish_round : Round vanish1 1 where
  live h := lose1_live h (Int.le_refl _)
  water h := by have := lose1_water h (Int.le_refl 0); simp only [vanish1]; omega
  cold h := lose1_cold h (Int.le_refl _)
  len _ := lose1_len _ _ _
theorem melt_round : Round melt1 0 where
  live {l ls} h := by
    simp only [melt1]
    split
    · rename_i h2
      obtain ⟨⟨a, b, c, d⟩, h1⟩ := h.head
      exact ⟨Live.cons (by simp only [Fit]; omega) h1 h.tail, Int.le_refl _⟩
    · exact lose1_live h (by omega)
  water {l ls} h := by
    simp only [melt1]
    split
    · simp only [water]; omega
    · have := lose1_water h (show (0 : Int) ≤ 1 by omega); omega
  cold {l ls} h := by
    simp only [melt1]
    split
    · simp only [cold]; omega
    · exact lose1_cold h (by omega)
  len {l ls} h := by
    simp only [melt1]
    split
    · simp
    · exact lose1_len _ _ _
section
variable {f : List Ly → List Ly × Int} {d : Int}
end
def freezes : List Ly → Int → List Ly × Int
  | [], m => ([], m)
  | l :: ls, m => (⟨l.f0 + min m l.f1, l.f1 - min m l.f1, l.f2⟩ :: (freezes ls (m - min m l.f1)).1, (freezes ls (m - min m l.f1)).2)
def chill : List Ly → Int → List Ly
  | [], _ => []
  | l :: ls, m => ⟨l.f0, l.f1, l.f2 + m⟩ :: ls
def freeze (ls : List Ly) (m : Int) : List Ly := chill (freezes ls m).1 (freezes ls m).2
theorem freezes_fit {ls : List Ly} : ∀ {m : Int}, Live ls → 0 ≤ m → Live (freezes ls m).1 ∧ 0 ≤ (freezes ls m).2 ∧ (freezes ls m).2 ≤ m ∧ water (freezes ls m).1 = water ls ∧ cold (freezes ls m).1 = cold ls ∧ (freezes ls m).1.length = ls.length := by
  induction ls with
  | nil => intro m h hm; exact ⟨Live.nil, hm, Int.le_refl _, rfl, rfl, rfl⟩
  | cons l ls ih =>
    intro m h hm
    obtain ⟨⟨a, b, c, d⟩, h1⟩ := h.head
    obtain ⟨i1, i2, i3, i4, i5, i6⟩ := ih (m := m - min m l.f1) h.tail (by omega)
    simp only [freezes]
    refine ⟨Live.cons ?_ ?_ i1, i2, by omega, ?_, ?_, ?_⟩
    · simp only [Fit]; omega
    · dsimp only; omega
    · simp only [water]; omega
    · simp only [cold]; omega
    · simp [i6]
end Go.Proofs.YtpldcikmlpegpaaDoor.Plain
end
section
namespace Go.Proofs.YtpldcikmlpegpaaDoor.Plain
open Go.RowKit Go.Proofs.YtpldcikmlpegpaaDoor.PB
theorem wr (x : Int) (h : -9223372036854775808 ≤ x ∧ x ≤ 9223372036854775807) : wrap64 x = x := by
  unfold wrap64
  omega
def Right (l : Ly) : Prop := 1 ≤ l.f0 ∧ l.f0 ≤ 65536 ∧ 0 ≤ l.f2 ∧ l.f2 ≤ 65536 ∧ 0 ≤ l.f1 ∧ l.f1 ≤ l.f0 / 20 ∧ (l.f1 = 0 ∨ l.f2 = 0)
instance (l : Ly) : Decidable (Right l) := inferInstanceAs (Decidable (_ ∧ _))
def Rights (ls : List Ly) : Prop := ∀ l ∈ ls, Right l
instance (ls : List Ly) : Decidable (Rights ls) := inferInstanceAs (Decidable (∀ l ∈ ls, Right l))
def Valid (ls : List Ly) : Prop := ls.length ≤ 64 ∧ Rights ls ∧ water ls ≤ 65536 ∧ cold ls ≤ 65536
instance (ls : List Ly) : Decidable (Valid ls) := inferInstanceAs (Decidable (_ ∧ _))
def checkE (ls : List Ly) : Int := if Valid ls then 0 else 20
theorem Right.live {l : Ly} (h : Right l) : Fit l ∧ 1 ≤ l.f0 := by
  obtain ⟨a, b, c, d, e, f, g⟩ := h
  unfold Fit
  omega
theorem Rights.live {ls : List Ly} (h : Rights ls) : Live ls := fun l hl => (h l hl).live
theorem Rights.head {l : Ly} {ls : List Ly} (h : Rights (l :: ls)) : Right l := h l List.mem_cons_self
theorem Rights.tail {l : Ly} {ls : List Ly} (h : Rights (l :: ls)) : Rights ls := fun x hx => h x (List.mem_cons_of_mem _ hx)
theorem Valid.live {ls : List Ly} (h : Valid ls) : Live ls := h.2.1.live
theorem from_eq (a b c : Int) : pack_from.f a b c = some (decide (b ≤ a ∧ a ≤ c)) := by
  unfold pack_from.f
  by_cases h : a ≥ b
  · rw [if_pos h]; congr 1; simp; omega
  · rw [if_neg h]; congr 1; symm; simp; omega
theorem some_true {p : Prop} [Decidable p] (h : p) : (some true : Option Bool) = some (decide p) := by rw [decide_eq_true h]
theorem some_false {p : Prop} [Decidable p] (h : ¬ p) : (some false : Option Bool) = some (decide p) := by rw [decide_eq_false h]
theorem right_eq (a b c : Int) : pack_right.f a b c = some (decide (Right ⟨a, b, c⟩)) := by
  unfold pack_right.f
  simp only [from_eq, Option.bind_some, pack_hold.f, decide_eq_true_eq]
  by_cases h1 : 1 ≤ a ∧ a ≤ 65536
  · have ht : wrap64 (Int.tdiv a 20) = a / 20 := by rw [Int.tdiv_eq_ediv_of_nonneg (by omega), wr _ (by omega)]
    rw [if_pos h1]
    by_cases h2 : 0 ≤ c ∧ c ≤ 65536
    · rw [if_pos h2, ht]
      by_cases h3 : 0 ≤ b ∧ b ≤ a / 20
      · rw [if_pos h3]
        by_cases h4 : b = 0
        · rw [if_pos h4]; exact some_true ⟨h1.1, h1.2, h2.1, h2.2, h3.1, h3.2, .inl h4⟩
        · rw [if_neg h4]
          by_cases h5 : c = 0
          · rw [show (c == 0) = true by simp [h5]]; exact some_true ⟨h1.1, h1.2, h2.1, h2.2, h3.1, h3.2, .inr h5⟩
          · rw [show (c == 0) = false by simp [h5]]; exact some_false (fun h => h.2.2.2.2.2.2.elim h4 h5)
      · rw [if_neg h3]; exact some_false (fun h => h3 ⟨h.2.2.2.2.1, h.2.2.2.2.2.1⟩)
    · rw [if_neg h2]; exact some_false (fun h => h2 ⟨h.2.2.1, h.2.2.2.1⟩)
  · rw [if_neg h1]; exact some_false (fun h => h1 ⟨h.1, h.2.1⟩)
theorem rd_drop {ls : List Ly} {i : Nat} (h : i < ls.length) : ls.drop i = rd_T48 ls (i : Int) :: ls.drop (i + 1) := by
  rw [List.drop_eq_getElem_cons h]
  congr 1
  simp [rd_T48, List.getD_eq_getElem?_getD, h]
theorem sums_loop (ls : List Ly) (hr : Rights ls) (hl : ls.length ≤ 128) : ∀ (d k i : Nat) (w c : Int), i + d = ls.length → d < k → 0 ≤ w → w ≤ 131072 * (i : Int) → 0 ≤ c → c ≤ 65536 * (i : Int) →
    pack_sums.l0 k w c ls (ls.length : Int) (i : Int) = some (w + water (ls.drop i), c + cold (ls.drop i)) := by
  intro d
  induction d with
  | zero =>
    intro k i w c hi hk _ _ _ _
    obtain ⟨k, rfl⟩ : ∃ j, k = j + 1 := ⟨k - 1, by omega⟩
    unfold pack_sums.l0
    rw [if_neg (by omega), List.drop_eq_nil_of_le (by omega)]
    simp [water, cold]
  | succ d ih =>
    intro k i w c hi hk h0 h1 h2 h3
    obtain ⟨k, rfl⟩ : ∃ j, k = j + 1 := ⟨k - 1, by omega⟩
    have hm : Right (rd_T48 ls (i : Int)) := hr _ (by
      have : rd_T48 ls (i : Int) ∈ ls.drop i := by rw [rd_drop (by omega)]; exact List.mem_cons_self
      exact List.mem_of_mem_drop this)
    obtain ⟨a, b, cc, dd, e, f, g⟩ := hm
    unfold pack_sums.l0
    rw [if_pos (by omega), if_pos (by omega), if_pos (by omega)]
    rw [rd_drop (show i < ls.length by omega)]
    simp only [water, cold]
    rw [wr ((rd_T48 ls (i : Int)).f0 + _) (by omega), wr (w + _) (by omega), wr (c + _) (by omega), wr ((i : Int) + 1) (by omega)]
    have := ih k (i + 1) (w + ((rd_T48 ls (i : Int)).f0 + (rd_T48 ls (i : Int)).f1)) (c + (rd_T48 ls (i : Int)).f2) (by omega) (by omega) (by omega) (by push_cast; omega) (by omega) (by push_cast; omega)
    push_cast at this
    rw [this]
    congr 2 <;> omega
theorem sums_eq {k : Nat} {ls : List Ly} (hr : Rights ls) (hl : ls.length ≤ 128) (hk : ls.length < k) : pack_sums.f k ls = some (water ls, cold ls) := by
  unfold pack_sums.f
  have := sums_loop ls hr hl ls.length k 0 0 0 (by omega) hk (by omega) (by omega) (by omega) (by omega)
  simpa using this
theorem check_loop (ls : List Ly) (hl : ls.length ≤ 64) : ∀ (d k i : Nat), i + d = ls.length → d + 65 < k → Rights (ls.take i) →
    pack_Check.l0 k ls (ls.length : Int) (i : Int) ls = some (checkE ls) := by
  intro d
  induction d with
  | zero =>
    intro k i hi hk h
    obtain ⟨k, rfl⟩ : ∃ j, k = j + 1 := ⟨k - 1, by omega⟩
    rw [List.take_of_length_le (by omega)] at h
    unfold pack_Check.l0
    rw [if_neg (by omega), sums_eq h (by omega) (by omega)]
    simp only [Option.bind_some, checkE]
    by_cases hw : water ls > 65536
    · rw [if_pos hw, if_neg (fun hv : Valid ls => by have := hv.2.2.1; omega)]
    · rw [if_neg hw]
      by_cases hc : cold ls > 65536
      · rw [if_pos hc, if_neg (fun hv : Valid ls => by have := hv.2.2.2; omega)]
      · rw [if_neg hc, if_pos (show Valid ls from ⟨hl, h, by omega, by omega⟩)]
  | succ d ih =>
    intro k i hi hk h
    obtain ⟨k, rfl⟩ : ∃ j, k = j + 1 := ⟨k - 1, by omega⟩
    unfold pack_Check.l0
    rw [if_pos (by omega), if_pos (by omega), if_pos (by omega), right_eq]
    simp only [Option.bind_some, decide_eq_true_eq]
    have hd := rd_drop (show i < ls.length by omega)
    by_cases hr : Right (rd_T48 ls (i : Int))
    · rw [if_pos (by exact hr), wr ((i : Int) + 1) (by omega)]
      have := ih k (i + 1) (by omega) (by omega) (by
        intro x hx
        rw [List.take_add_one] at hx
        rcases List.mem_append.mp hx with hx | hx
        · exact h x hx
        · have e : ls[i]?.toList = [rd_T48 ls (i : Int)] := by
            simp [rd_T48, List.getD_eq_getElem?_getD, show i < ls.length by omega]
          rw [e] at hx
          rw [List.mem_singleton.mp hx]
          exact hr)
      push_cast at this
      exact this
    · rw [if_neg (by exact hr), checkE, if_neg]
      intro hv
      exact hr (hv.2.1 _ (by
        have : rd_T48 ls (i : Int) ∈ ls.drop i := by rw [hd]; exact List.mem_cons_self
        exact List.mem_of_mem_drop this))
theorem check_eq {k : Nat} (hk : 130 ≤ k) (ls : List Ly) : pack_Check.f k ls = some (checkE ls) := by
  unfold pack_Check.f
  by_cases h : (ls.length : Int) > 64
  · rw [if_pos h, checkE, if_neg (by rintro ⟨h1, _⟩; omega)]
  · rw [if_neg h]
    exact check_loop ls (by omega) ls.length k 0 (by omega) (by omega) (by intro x hx; simp at hx)
theorem checkE_zero {ls : List Ly} : checkE ls = 0 ↔ Valid ls := by
  unfold checkE
  split <;> simp_all
theorem checkE_pos {ls : List Ly} (h : Valid ls) : checkE ls = 0 := checkE_zero.2 h
theorem checkE_neg {ls : List Ly} (h : ¬ Valid ls) : checkE ls = 20 := if_neg h
instance : DecidableEq Ly := fun a b => decidable_of_iff (a.f0 = b.f0 ∧ a.f1 = b.f1 ∧ a.f2 = b.f2) ⟨fun h => Ly.ext' h.1 h.2.1 h.2.2, fun h => by rw [h]; exact ⟨rfl, rfl, rfl⟩⟩
end Go.Proofs.YtpldcikmlpegpaaDoor.Plain
end
section
namespace Go.Proofs.YtpldcikmlpegpaaDoor.Plain
open Go.RowKit Go.Proofs.YtpldcikmlpegpaaDoor.PB Go.Proofs.YtpldcikmlpegpaaDoor.Col Go.Proofs.YtpldcikmlpegpaaDoorW.PrintWords Go.Proofs.YtpldcikmlpegpaaDoorW.PrintMore
theorem mn_min (a b : Int) : mn a b = min a b := by unfold mn; split <;> omega
theorem mx_max (a b : Int) : mx a b = max a b := by unfold mx; split <;> omega
def St (c : C) (n : Nat) (L : List Ly) (o t : Int) : Prop :=
  c.n = n ∧ c.out = o ∧ c.taken = t ∧ ∃ pre post, c.at_ = pre ++ L ++ post ∧ pre.length = c.top ∧ c.top + L.length = n
theorem St.live {c : C} {n : Nat} {L : List Ly} {o t : Int} (h : St c n L o t) : c.live = L := by
  obtain ⟨h1, h2, h3, pre, post, h4, h5, h6⟩ := h
  unfold C.live
  rw [h4, ← h5, List.append_assoc, List.drop_left, show c.n - pre.length = L.length by omega, List.take_left]
theorem st_of (l : List Ly) : St (C.of l) (l.length + 1) l 0 0 :=
  ⟨rfl, rfl, rfl, [z48], List.replicate (64 - l.length) z48, rfl, rfl, by show 1 + l.length = _; omega⟩
theorem stepW_into {l : Ly} {m : Int} (h : Fit l) (hm : 0 ≤ m) (hw : l.f0 + l.f1 + m ≤ 1099511627776) (hc : l.f2 ≤ 1099511627776) : stepW l m = into l m := by
  obtain ⟨a, b, c, d⟩ := h
  have h0 : 0 ≤ l.f0 + min m l.f2 := by omega
  unfold stepW into
  simp only [mn_min]
  rw [wr (l.f0 + min m l.f2) (by omega), Int.tdiv_eq_ediv_of_nonneg h0, wr (m - min m l.f2) (by omega), wr ((l.f0 + min m l.f2) / 20) (by omega), wr ((l.f0 + min m l.f2) / 20 - l.f1) (by omega)]
  rw [wr (l.f1 + _) (by omega), wr (l.f2 - _) (by omega), wr (m - min m l.f2 - _) (by omega)]
theorem get_mid (pre : List Ly) (l : Ly) (post : List Ly) : (pre ++ l :: post).getD pre.length z48 = l := by
  simp [List.getD_eq_getElem?_getD]
theorem set_mid (pre : List Ly) (l x : Ly) (post : List Ly) : (pre ++ l :: post).set pre.length x = pre ++ x :: post := by
  simp
theorem flowAt_flow : ∀ (L pre post : List Ly) (m : Int), Fits L → 0 ≤ m → water L + m ≤ 1099511627776 → cold L ≤ 1099511627776 →
    flowAt L.length (pre ++ L ++ post) pre.length m = (pre ++ (flow L m).1 ++ post, (flow L m).2) := by
  intro L
  induction L with
  | nil => intro pre post m _ _ _ _; rfl
  | cons l ls ih =>
    intro pre post m hf hm hw hc
    have f := hf.head
    have w0 := water_nonneg hf.tail
    have c0 := cold_nonneg hf.tail
    simp only [water, cold] at hw hc
    obtain ⟨a, b, c, d⟩ := f
    simp only [List.length_cons, flowAt, flow]
    split
    · have e : pre ++ (l :: ls) ++ post = pre ++ l :: (ls ++ post) := by simp
      have hs : stepW l m = into l m := stepW_into hf.head hm (by omega) (by omega)
      rw [e, get_mid, set_mid, hs]
      obtain ⟨g, r⟩ := into_fit hf.head hm
      have hiw := into_water l m
      have hg := g
      obtain ⟨a', b', c', d'⟩ := hg
      have e2 : pre ++ (into l m).1 :: (ls ++ post) = (pre ++ [(into l m).1]) ++ ls ++ post := by simp
      have e3 : pre.length + 1 = (pre ++ [(into l m).1]).length := by simp
      rw [e2, e3, ih (pre ++ [(into l m).1]) post (into l m).2 hf.tail r (by omega) (by omega)]
      simp
    · rfl
theorem c_lose {c : C} {n : Nat} {l : Ly} {ls : List Ly} {o t more : Int} (h : St c n (l :: ls) o t) (hl : Live (l :: ls)) (hm : 0 ≤ more) (hm1 : more ≤ 1) (ho : 0 ≤ o) (hw : water (l :: ls) + o ≤ 549755813888) (hc : cold (l :: ls) ≤ 549755813888) :
    St (c.lose more) n (lose1 l ls more).1 (o + (lose1 l ls more).2) t := by
  obtain ⟨h1, h2, h3, pre, post, h4, h5, h6⟩ := h
  have hk := lose1_live hl hm
  have hkw := lose1_water hl hm
  have wn := water_nonneg hk.1.fits
  obtain ⟨⟨a, b, cc, d⟩, i1⟩ := hl.head
  have w0 := water_nonneg hl.tail.fits
  have c0 := cold_nonneg hl.tail.fits
  have hw' := hw
  have hc' := hc
  simp only [water, cold] at hw' hc'
  obtain ⟨r0, r1⟩ := lose1_rest (more := more) hl.head.1 hl.head.2 hm
  have e : pre ++ (l :: ls) ++ post = pre ++ l :: (ls ++ post) := by simp
  have hd : 0 ≤ l.f0 - 1 := by omega
  have hL : loseW l more = (⟨l.f0 - 1, min (l.f1 + more) ((l.f0 - 1) / 20), l.f2⟩, l.f1 + more - min (l.f1 + more) ((l.f0 - 1) / 20)) := by
    unfold loseW
    simp only [mn_min]
    rw [wr (l.f0 - 1) (by omega), wr (l.f1 + more) (by omega), Int.tdiv_eq_ediv_of_nonneg hd, wr ((l.f0 - 1) / 20) (by omega), wr (l.f1 + more - _) (by omega)]
  have hln : c.n - (c.top + 1) = ls.length := by simp only [List.length_cons] at h6; omega
  have hfl := flowAt_flow ls (pre ++ [⟨l.f0 - 1, min (l.f1 + more) ((l.f0 - 1) / 20), l.f2⟩]) post (l.f1 + more - min (l.f1 + more) ((l.f0 - 1) / 20)) hl.tail.fits r0 (by omega) (by omega)
  have e2 : pre ++ (⟨l.f0 - 1, min (l.f1 + more) ((l.f0 - 1) / 20), l.f2⟩ : Ly) :: (ls ++ post) = (pre ++ [⟨l.f0 - 1, min (l.f1 + more) ((l.f0 - 1) / 20), l.f2⟩]) ++ ls ++ post := by simp
  have e3 : pre.length + 1 = (pre ++ [(⟨l.f0 - 1, min (l.f1 + more) ((l.f0 - 1) / 20), l.f2⟩ : Ly)]).length := by simp
  have hat : c.at_.getD c.top z48 = l := by rw [h4, ← h5, e, get_mid]
  have hset : c.at_.set c.top (loseW l more).1 = (pre ++ [⟨l.f0 - 1, min (l.f1 + more) ((l.f0 - 1) / 20), l.f2⟩]) ++ ls ++ post := by rw [h4, ← h5, e, set_mid, hL, ← e2]
  have hr : flowAt (c.n - (c.top + 1)) (c.at_.set c.top (loseW l more).1) (c.top + 1) (loseW l more).2 = ((pre ++ [⟨l.f0 - 1, min (l.f1 + more) ((l.f0 - 1) / 20), l.f2⟩]) ++ (flow ls (l.f1 + more - min (l.f1 + more) ((l.f0 - 1) / 20))).1 ++ post, (flow ls (l.f1 + more - min (l.f1 + more) ((l.f0 - 1) / 20))).2) := by
    rw [hset, hln, hL, ← h5, e3]
    exact hfl
  have hsnd : (lose1 l ls more).2 = (flow ls (l.f1 + more - min (l.f1 + more) ((l.f0 - 1) / 20))).2 := by
    simp only [lose1]
    split <;> rfl
  have hfl' : (flow ls (l.f1 + more - min (l.f1 + more) ((l.f0 - 1) / 20))).1.length = ls.length := flow_length _ _
  unfold C.lose
  simp only [hat, hr]
  refine ⟨h1, ?_, h3, ?_⟩
  · show wrap64 (c.out + _) = _
    rw [h2, ← hsnd, wr _ (by omega)]
  · rw [wr (l.f0 - 1) (by omega)]
    simp only [lose1]
    simp only [List.length_cons] at h6
    by_cases hz : l.f0 - 1 = 0
    · rw [if_pos hz, if_pos hz]
      exact ⟨_, post, rfl, by simp [h5], by rw [hfl']; omega⟩
    · rw [if_neg hz, if_neg hz]
      exact ⟨pre, post, by simp, h5, by simp only [List.length_cons]; rw [hfl']; omega⟩
theorem c_melt {c : C} {n : Nat} {l : Ly} {ls : List Ly} {o t : Int} (h : St c n (l :: ls) o t) (hl : Live (l :: ls)) (ho : 0 ≤ o) (hw : water (l :: ls) + o ≤ 549755813888) (hc : cold (l :: ls) ≤ 549755813888) :
    St c.melt n (melt1 (l :: ls)).1 (o + (melt1 (l :: ls)).2) (t + 0) := by
  obtain ⟨h1, h2, h3, pre, post, h4, h5, h6⟩ := id h
  have e : pre ++ (l :: ls) ++ post = pre ++ l :: (ls ++ post) := by simp
  have hat : c.at_.getD c.top z48 = l := by rw [h4, ← h5, e, get_mid]
  have c0 := cold_nonneg hl.tail.fits
  have hc' := hc
  simp only [cold] at hc'
  unfold C.melt
  simp only [hat, melt1, Int.add_zero]
  split
  · refine ⟨h1, by simpa using h2, h3, pre, post, ?_, h5, by simpa using h6⟩
    show c.at_.set c.top _ = _
    rw [h4, ← h5, e, set_mid, wr (l.f2 - 1) (by omega)]
    simp
  · exact c_lose h hl (by omega) (by omega) ho hw hc
theorem c_vanish {c : C} {n : Nat} {l : Ly} {ls : List Ly} {o t : Int} (h : St c n (l :: ls) o t) (hl : Live (l :: ls)) (ho : 0 ≤ o) (ht : 0 ≤ t ∧ t ≤ 549755813888) (hw : water (l :: ls) + o ≤ 549755813888) (hc : cold (l :: ls) ≤ 549755813888) :
    St c.vanish n (vanish1 (l :: ls)).1 (o + (vanish1 (l :: ls)).2) (t + 1) := by
  obtain ⟨h1, h2, h3, r⟩ := c_lose h hl (Int.le_refl 0) (by omega) ho hw hc
  unfold C.vanish
  refine ⟨h1, h2, ?_, r⟩
  show wrap64 (c.taken + 1) = _
  rw [h.2.2.1, wr _ (by omega)]
theorem c_times {F : C → C} {f : List Ly → List Ly × Int} {d : Int} (hd : 0 ≤ d ∧ d ≤ 1) (hf : Round f d)
    (hF : ∀ {c : C} {n : Nat} {l : Ly} {ls : List Ly} {o t : Int}, St c n (l :: ls) o t → Live (l :: ls) → 0 ≤ o → 0 ≤ t → t ≤ 549755813888 → water (l :: ls) + o ≤ 549755813888 → cold (l :: ls) ≤ 549755813888 → St (F c) n (f (l :: ls)).1 (o + (f (l :: ls)).2) (t + d)) :
    ∀ (k : Nat) {c : C} {n : Nat} {L : List Ly} {o t : Int}, St c n L o t → Live L → 0 ≤ o → 0 ≤ t → t + (k : Int) ≤ 549755813888 → water L + o ≤ 549755813888 → cold L ≤ 549755813888 →
      St (C.times F k c) n (times f k L).1 (o + (times f k L).2.1) (t + d * (times f k L).2.2) := by
  intro k
  induction k with
  | zero => intro c n L o t h _ _ _ _ _ _; simpa [C.times, times] using h
  | succ k ih =>
    intro c n L o t h hl ho ht htk hw hc
    obtain ⟨h1, h2, h3, pre, post, h4, h5, h6⟩ := id h
    cases L with
    | nil =>
      simp only [List.length_nil] at h6
      simp only [C.times, times]
      rw [if_pos (by omega)]
      simpa using h
    | cons l ls =>
      simp only [List.length_cons] at h6
      simp only [C.times, times]
      rw [if_neg (by omega)]
      have hr := hF h hl ho ht (by omega) hw hc
      obtain ⟨q1, q2⟩ := hf.live hl
      have q3 := hf.water hl
      have q4 := hf.cold hl
      have := ih hr q1 (by omega) (by omega) (by push_cast at htk; omega) (by omega) (by omega)
      have e : o + (f (l :: ls)).2 + (times f k (f (l :: ls)).1).2.1 = o + ((f (l :: ls)).2 + (times f k (f (l :: ls)).1).2.1) := by omega
      have e' : t + d + d * (times f k (f (l :: ls)).1).2.2 = t + d * (1 + (times f k (f (l :: ls)).1).2.2) := by rw [Int.mul_add, Int.mul_one]; omega
      rw [e, e'] at this
      exact this
end Go.Proofs.YtpldcikmlpegpaaDoor.Plain
end
