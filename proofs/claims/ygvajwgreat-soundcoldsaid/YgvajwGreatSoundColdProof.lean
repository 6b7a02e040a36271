import Derived.Test.YgvajwGreatRun
import Derived.Test.YgvajwGreatRows
import Derived.Test.YgvajwGreatFactsA
import Derived.Test.YgvajwGreatFactsB
import Derived.Test.YgvajwGreatFactsC
import Derived.Test.YgvajwGreatFactsD
import Derived.Test.YgvajwGreatFactsE
import Derived.Test.YgvajwGreatFactsF
import Derived.Test.YgvajwGreatRank
import Derived.WalkKit
import Derived.ProofKit
import Derived.OpenShut
import Derived.ShutString
namespace Go.Proofs.YgvajwGreat.soundCold
open Go.ChangeShapes Go.WideShapes Go.ChangeAt Go.RowKit
open Go.ChangeMaps (open_string shut_string)
set_option linter.unusedVariables false      -- a walk need not use every 'w<i>' (that an integer argument fits its kind)

theorem own : ownKnob Hvaj.prog.godebug = none := by kernel_rfl

/-! ### STEP 1: THE WALK -/
theorem walk (w : World) : Calls Hvaj.prog 3 #[] w fun e w' => e = .returned (.bool true) ∧ Grown w w' := Ev.walk w

/-! ### THE ROW's STEP: WRITTEN OUT: LEAVE IT -/
set_option maxRecDepth 100000 in
theorem lifted (os : Os) (started : os.Started) (H : Type) (enc : TypeId × Value → H) :
    ReturnsInHanded {} Hvaj.checked os 3 .any (Rows.soundColdSpec.pre6 enc Hvaj.prog Hvaj.f3 Rows.soundColdRow.domain false) (Rows.soundColdSpec.post enc Hvaj.prog Hvaj.f3 false true false false) := by
  refine returnsInHanded_of_change (C := Hvaj.checked) own started (by kernel_rfl) Hvaj.func3
    (ChangeSpec.witness6 (enc := enc) (C := Hvaj.checked) false ⟨#[], #[], []⟩ 8 (by kernel_rfl) (by kernel_rfl) (by kernel_rfl) (by kernel_rfl)) ?_
  intro W base args ds gs before hval0 hW hcnd _
  have hval : ∀ (j : Nat) t v, Hvaj.f3.params[j]? = some t → args[j]? = some v → Value.okWide Hvaj.prog W .any base t v := hval0
  have hW' := hW
  obtain ⟨p, q, hA0, hV, rfl, hfz, hnd⟩ := hW
  have hA : DataW.TrodAll enc Hvaj.prog W 0 (fun _ => true) true Hvaj.f3.params.toList args.toList ds p := hA0
  rw [Hvaj.params3] at hA hval
  obtain ⟨rfl, rfl, rfl⟩ := trodAll_none hA
  obtain ⟨rfl, rfl⟩ := trodVars_none hV
  clear hA0 hval0
  simp only [List.append_nil] at hW'
  refine (walk  W).mono fun e W' ⟨he, hg⟩ => ?_
  subst he
  exact ⟨_, rfl, post_of_same (pa := []) (pv := []) hW' (fun _ _ _ => (trodAll_cons_mk (shut_bool Hvaj.underlying4 _) trodAll_mk0)) (fun sp _ => rfl) (fun _ _ => rfl) rfl
    (hg.frame _) hg.2.1 (ok_one (by kernel_rfl) rfl (okWide_bool_mk Hvaj.underlying4 _))⟩

theorem andI {a b : Bool} (ha : a = true) (hb : b = true) : (a && b) = true := by rw [ha, hb]; rfl
set_option maxRecDepth 100000 in
theorem closed : joinedFacts Hvaj.prog 3 Hvaj.f3 Rows.soundColdSpec Rows.soundColdRow = true :=
  andI (andI (andI (andI (andI (andI (andI (andI (andI (andI (andI (andI (andI (andI (andI (andI (andI (andI (andI (andI (andI (andI (andI (andI (andI (andI (andI (andI (andI (andI (andI (c0) c1) c2) c3) c4) c5) c6) c7) c8) c9) c10) c11) c12) c13) c14) c15) c16) c17) c18) c19) c20) c21) c22) c23) c24) c25) c26) c27) c28) c29) c30) c31
theorem over : Rows.soundColdRow.holds Hvaj.pinned (OpenSpec.ofChange Rows.soundColdSpec) :=
  OpenClaim.holds_of_wide 3 Hvaj.f3 rfl rfl rfl rfl rfl rfl rfl ⟨rfl, rfl, rfl, rfl, rfl⟩ rfl rfl rfl rfl rfl (by kernel_rfl) Hvaj.func3 closed
    (of_decide_eq_true (by kernel_rfl)) (by unfold Func.isWrapper; first | (rw [if_pos (by decide +kernel)]; kernel_rfl) | (rw [if_neg (by decide +kernel)]; exact ⟨rfl, rfl⟩))
    (fun os started H enc _ => lifted os started H enc)

/-- ████ THE STATEMENT ████ -/
theorem proved : Rows.SoundColdSaid :=
  over
end Go.Proofs.YgvajwGreat.soundCold
