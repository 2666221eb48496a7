/- The statement UploadPuts is proved: for every input, with no condition, the Go function returns true, and its arguments read as they did. -/
import Derived.Test.YtdfkinkihkgdbaaRows
import Derived.WalkKit
import Derived.ProofKit
import Derived.OpenShut
import Derived.Below
import Derived.Carry
import Derived.SizedLaws
import Derived.Test.YtdfkinkihkgdbaaUpArg
import Derived.Test.YtdfkinkihkgdbaaUpPure2
namespace Go.Proofs.Ytdfkinkihkgdbaa.uploadPuts
open Go.ChangeShapes Go.WideShapes Go.ChangeAt Go.RowKit Go.Proofs.YtdfkinkihkgdbaaW.PrintWords Go.Proofs.Ytdfkinkihkgdbaa.PUp
set_option linter.unusedVariables false

theorem own : ownKnob Try.prog.godebug = none := by kernel_rfl

theorem laidOut : laidOutB Try.prog = true := by kernel_rfl

set_option maxRecDepth 100000 in
theorem lifted (os : Os) (started : os.Started) (H : Type) (enc : TypeId × Value → H) :
    ReturnsInHanded {} Try.checked os 9 .any (Rows.uploadPutsSpec.pre6 enc Try.prog Try.f9 Rows.uploadPutsRow.domain false) (Rows.uploadPutsSpec.post enc Try.prog Try.f9 false true false false) := by
  refine returnsInHanded_of_change_sized (C := Try.checked) own started (by kernel_rfl) Try.func9
    (ChangeSpec.witness6 (enc := enc) (C := Try.checked) false ⟨#[], #[.agg #[.string ByteArray.empty, .string ByteArray.empty, .int .u64 0, .int .u64 0, .slice none 0 0], .int .i64 0, .slice none 0 0], []⟩ 8 (by kernel_rfl) (by kernel_rfl) (by kernel_rfl) (by kernel_rfl)) ?_
  intro W base args ds gs before hval0 hW hcnd hsz0 _
  have hval : ∀ (j : Nat) t v, Try.f9.params[j]? = some t → args[j]? = some v → Value.okWide Try.prog W .any base t v := hval0
  have hsz : (DataW.weightsEach Try.prog (Try.f9.params.toList ++ Rows.uploadPutsSpec.plain.varTypes Try.prog) (ds ++ gs)).all (· ≤ reachBytes) = true := hsz0
  have hW' := hW
  obtain ⟨p, q, hA0, hV, rfl, hfz, hnd⟩ := hW
  have hA : DataW.TrodAll enc Try.prog W 0 (fun _ => true) true Try.f9.params.toList args.toList ds p := hA0
  rw [Try.params9] at hA hval hsz
  obtain ⟨v0, vs0, d0, ds0, p0, q0, hargs, rfl, rfl, h0, r0⟩ := trodAll_cons hA
  obtain ⟨v1, vs1, d1, ds1, p1, q1, rfl, rfl, rfl, h1, r1⟩ := trodAll_cons r0
  obtain ⟨v2, vs2, d2, ds2, p2, q2, rfl, rfl, rfl, h2, r2⟩ := trodAll_cons r1
  obtain ⟨rfl, rfl, rfl⟩ := trodAll_nil r2
  obtain rfl : args = #[v0, v1, v2] := by cases args; simp_all
  obtain ⟨rfl, rfl⟩ := trodVars_none hV
  have k0 := h0
  have k2 := h2
  have lt0 : ∀ x ∈ p0, x.block < W.heap.size := by obtain ⟨m, hm⟩ := k0; exact DataW.trod_lt m _ _ _ hm
  have lt2 : ∀ x ∈ p2, x.block < W.heap.size := by obtain ⟨m, hm⟩ := k2; exact DataW.trod_lt m _ _ _ hm
  have z0 : ∀ n ∈ d0.weights Try.prog 36, n ≤ 140737488351232 := fun n hn => by
    have := List.all_eq_true.1 hsz n (DataW.weights_mem_each (j := 0) rfl rfl n hn)
    exact (of_decide_eq_true this : n ≤ reachBytes)
  have z2 : ∀ n ∈ d2.weights Try.prog 39, n ≤ 140737488351232 := fun n hn => by
    have := List.all_eq_true.1 hsz n (DataW.weights_mem_each (j := 2) rfl rfl n hn)
    exact (of_decide_eq_true this : n ≤ reachBytes)
  obtain ⟨a0, a1, a2, a3, A, c, l, rfl, hC, hlc, hB⟩ := open_upload (hval 0 36 v0 rfl rfl) h0 z0
  obtain ⟨n, rfl, rfl, rfl, w1⟩ := open_int Try.underlying3 (hval 1 3 v1 rfl rfl) h1
  obtain ⟨A2, c2, L, rfl, hC2, hlc2⟩ : ∃ (A2 : Option Addr) (c2 : Nat) (L : List Int), v2 = .slice A2 L.length c2 ∧ Kd.C (Kd.int .u8) W A2 L.length L ∧ L.length ≤ c2 := by
    obtain ⟨A0, l0, c0, rfl⟩ := okWide_slice Try.underlying39 (hval 2 39 v2 rfl rfl)
    obtain ⟨fuel, hf⟩ := h2
    obtain ⟨A2, c2, L, e, r1, r2, _, r3⟩ := open_intsC (B := 1) Try.underlying39 Try.underlying5 (by kernel_rfl) (by kernel_rfl) (by decide) hf z2
    have e' : Value.slice A0 l0 c0 = .slice A2 L.length c2 := by simpa [Value.cells] using e
    exact ⟨A2, c2, L, e', r1, r2⟩
  clear hA0 hval0 hsz hsz0 z0 z2
  simp only [List.append_nil] at hW'
  refine (stelelaw16_UploadPuts.calls 10000 a0 a1 a2 a3 A c l n A2 c2 L true W hC hlc hC2 hlc2 (puts_pure a0 a1 a2 a3 l n L hB 10000 (Nat.le_refl _))).mono fun e W' ⟨he, bel⟩ => ?_
  subst he
  have back0 := Below.trod laidOut (by kernel_rfl) (of_decide_eq_true (by kernel_rfl)) k0 bel lt0
  have back2 := Below.trod laidOut (by kernel_rfl) (of_decide_eq_true (by kernel_rfl)) k2 bel lt2
  exact ⟨_, rfl, _, _, _, [], _, [], hW', trodAll_mk1 (shut_bool Try.underlying4 _), (trodAll_cons_mk back0 (trodAll_cons_mk (shut_int Try.underlying3 w1) (trodAll_cons_mk back2 trodAll_mk0))), rfl, bel.frame _, fun h => by cases h⟩

theorem over : Rows.uploadPutsRow.holds Try.pinned (OpenSpec.ofChange Rows.uploadPutsSpec) :=
  OpenClaim.holds_of_wide 9 Try.f9 rfl rfl rfl rfl rfl rfl rfl ⟨rfl, rfl, rfl, rfl, rfl⟩ rfl rfl rfl rfl rfl (by kernel_rfl) Try.func9 (by kernel_rfl)
    (of_decide_eq_true (by kernel_rfl)) (by unfold Func.isWrapper; first | (rw [if_pos (by decide +kernel)]; kernel_rfl) | (rw [if_neg (by decide +kernel)]; exact ⟨rfl, rfl⟩))
    (fun os started H enc _ => lifted os started H enc)

theorem proved : Rows.UploadPutsSaid :=
  over
#print axioms proved
end Go.Proofs.Ytdfkinkihkgdbaa.uploadPuts
