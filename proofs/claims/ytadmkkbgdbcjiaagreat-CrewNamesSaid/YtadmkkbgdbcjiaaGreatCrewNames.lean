import Derived.Test.YtadmkkbgdbcjiaaGreatMa
import Derived.Test.YtadmkkbgdbcjiaaGreatMb
import Derived.Test.YtadmkkbgdbcjiaaGreatMc
import Derived.Test.YtadmkkbgdbcjiaaGreatMd
import Derived.Test.YtadmkkbgdbcjiaaGreatMe
import Derived.Test.YtadmkkbgdbcjiaaGreatMy
import Derived.Test.YtadmkkbgdbcjiaaGreatMz
import Derived.Test.YtadmkkbgdbcjiaaGreatRow
/-
Proved: the law CrewNames of the package dripstonelaw17 returns true, whatever the world in which it is called, and leaves what was there as it was. It has no arguments; no condition.
-/
set_option linter.unusedVariables false
namespace Go.Drip
theorem GC_ok : RecOk kps Go.Proofs.Tryz.prog GC := (memoAt_ok (memo_ok (run_ok noG_sound) ex_run noG_sound) (memoAt_ok (memo_ok (run_ok noG_sound) chk_run noG_sound) noG_sound))
theorem GS_ok : RecOk kps Go.Proofs.Tryz.prog GS := (memoAt_ok (memo_ok (run_ok GC_ok) s0_0_run (memo_ok (run_ok GC_ok) s0_1_run (memo_ok (run_ok GC_ok) s0_2_run (memo_ok (run_ok GC_ok) s0_3_run (memo_ok (run_ok GC_ok) s0_4_run (memo_ok (run_ok GC_ok) s0_5_run (memo_ok (run_ok GC_ok) s0_6_run (memo_ok (run_ok GC_ok) s0_7_run (memo_ok (run_ok GC_ok) s0_8_run (memo_ok (run_ok GC_ok) s1_0_run (memo_ok (run_ok GC_ok) s1_1_run (memo_ok (run_ok GC_ok) s1_2_run (memo_ok (run_ok GC_ok) s1_3_run (memo_ok (run_ok GC_ok) s2_0_run (memo_ok (run_ok GC_ok) s2_1_run (memo_ok (run_ok GC_ok) s2_2_run noG_sound)))))))))))))))) GC_ok)
theorem G1_ok : RecOk kps Go.Proofs.Tryz.prog G1 := (memoAt_ok (memo_ok (run_ok GS_ok) new_run noG_sound) (memoAt_ok (memo_ok (run_ok GS_ok) copyE_run noG_sound) GS_ok))
theorem G2_ok : RecOk kps Go.Proofs.Tryz.prog G2 := (memoAt_ok (memo_ok (run_ok G1_ok) cn2_run noG_sound) (memoAt_ok (memo_ok (run_ok G1_ok) cp1_run (memo_ok (run_ok G1_ok) cp2_run noG_sound)) (memoAt_ok (memo_ok (run_ok G1_ok) cd1_run (memo_ok (run_ok G1_ok) cd2_run (memo_ok (run_ok G1_ok) cd3_run (memo_ok (run_ok G1_ok) cd4_run (memo_ok (run_ok G1_ok) cd5_run noG_sound))))) (memoAt_ok (memo_ok (run_ok G1_ok) cpy0_run (memo_ok (run_ok G1_ok) cpy5_run noG_sound)) (memoAt_ok (memo_ok (run_ok G1_ok) cl0_run (memo_ok (run_ok G1_ok) cl5_run noG_sound)) (memoAt_ok (memo_ok (run_ok G1_ok) cs5_run noG_sound) (memoAt_ok (memo_ok (run_ok G1_ok) cw0_run (memo_ok (run_ok G1_ok) cw1_run (memo_ok (run_ok G1_ok) cw2_run noG_sound))) G1_ok)))))))
theorem GM_ok : RecOk kps Go.Proofs.Tryz.prog GM := (memoAt_ok (memo_ok (run_ok G2_ok) awake_run noG_sound) G2_ok)
end Go.Drip
open Go
set_option maxRecDepth 100000
namespace Go.Proofs.YtadmkkbgdbcjiaaGreat.crewNames
open Go.ChangeShapes Go.WideShapes Go.ChangeAt Go.RowKit
set_option linter.unusedVariables false      -- a walk need not use every 'w<i>' (that an integer argument fits its kind)

theorem own : ownKnob Tryz.prog.godebug = none := by kernel_rfl

theorem walk (w : World) : Calls Tryz.prog 4 #[] w fun e w' => e = .returned (.bool true) ∧ w.keptBut w' fun _ => False := Go.Drip.closed_law (Go.Drip.run_ok Go.Drip.GM_ok) Go.Drip.main_run w
set_option maxRecDepth 100000
theorem lifted (os : Os) (started : os.Started) (H : Type) (enc : TypeId × Value → H) :
    ReturnsInHanded {} Tryz.checked os 4 .any (Rows.crewNamesSpec.pre6 enc Tryz.prog Tryz.f4 Rows.crewNamesRow.domain false) (Rows.crewNamesSpec.post enc Tryz.prog Tryz.f4 false true false false) := by
  refine returnsInHanded_of_change (C := Tryz.checked) own started (by kernel_rfl) Tryz.func4
    (ChangeSpec.witness6 (enc := enc) (C := Tryz.checked) false ⟨#[], #[], []⟩ 8 (by kernel_rfl) (by kernel_rfl) (by kernel_rfl) (by kernel_rfl)) ?_
  intro W base args ds gs before hval0 hW hcnd _
  have hval : ∀ (j : Nat) t v, Tryz.f4.params[j]? = some t → args[j]? = some v → Value.okWide Tryz.prog W .any base t v := hval0
  have hW' := hW
  obtain ⟨p, q, hA0, hV, rfl, hfz, hnd⟩ := hW
  have hA : DataW.TrodAll enc Tryz.prog W 0 (fun _ => true) true Tryz.f4.params.toList args.toList ds p := hA0
  rw [Tryz.params4] at hA hval
  obtain ⟨rfl, rfl, rfl⟩ := trodAll_none hA
  obtain ⟨rfl, rfl⟩ := trodVars_none hV
  clear hA0 hval0
  simp only [List.append_nil] at hW'
  refine (walk W).mono fun e W' ⟨he, hg⟩ => ?_
  subst he
  exact ⟨_, rfl, [], [], [], [], [], [], hW', trodAll_cons_mk (shut_bool Tryz.underlying4 _) trodAll_mk0, rfl, rfl, World.keptBut_mono (fun _ f => f.elim) hg, fun h => by cases h⟩

theorem over : Rows.crewNamesRow.holds Tryz.pinned (OpenSpec.ofChange Rows.crewNamesSpec) :=
  OpenClaim.holds_of_wide 4 Tryz.f4 rfl rfl rfl rfl rfl rfl rfl ⟨rfl, rfl, rfl, rfl, rfl⟩ rfl rfl rfl rfl rfl (by kernel_rfl) Tryz.func4 joined
    (of_decide_eq_true (by kernel_rfl)) (by unfold Func.isWrapper; first | (rw [if_pos (by decide +kernel)]; kernel_rfl) | (rw [if_neg (by decide +kernel)]; exact ⟨rfl, rfl⟩))
    (fun os started H enc _ => lifted os started H enc)

/-- The statement. -/
theorem proved : Rows.CrewNamesSaid :=
  over
#print axioms proved
end Go.Proofs.YtadmkkbgdbcjiaaGreat.crewNames
