/- The statement UploadJoins is proved: for every input, with no condition, the Go function returns true, and its arguments read as they did. -/
import Derived.Test.YtdfkinkihkgdbaaRows
import Derived.WalkKit
import Derived.ProofKit
import Derived.OpenShut
import Derived.Below
import Derived.Carry
import Derived.SizedLaws
import Derived.Test.YtdfkinkihkgdbaaUpArg
import Derived.Test.YtdfkinkihkgdbaaUpPure
namespace Go.Proofs.Ytdfkinkihkgdbaa.uploadJoins
open Go.ChangeShapes Go.WideShapes Go.ChangeAt Go.RowKit Go.Proofs.YtdfkinkihkgdbaaW.PrintWords Go.Proofs.Ytdfkinkihkgdbaa.PUp
set_option linter.unusedVariables false

theorem own : ownKnob Try.prog.godebug = none := by kernel_rfl

theorem laidOut : laidOutB Try.prog = true := by kernel_rfl

set_option maxRecDepth 100000 in
theorem lifted (os : Os) (started : os.Started) (H : Type) (enc : TypeId × Value → H) :
    ReturnsInHanded {} Try.checked os 7 .any (Rows.uploadJoinsSpec.pre6 enc Try.prog Try.f7 Rows.uploadJoinsRow.domain false) (Rows.uploadJoinsSpec.post enc Try.prog Try.f7 false true false false) := by
  refine returnsInHanded_of_change_sized (C := Try.checked) own started (by kernel_rfl) Try.func7
    (ChangeSpec.witness6 (enc := enc) (C := Try.checked) false ⟨#[], #[.agg #[.string ByteArray.empty, .string ByteArray.empty, .int .u64 0, .int .u64 0, .slice none 0 0], .slice none 0 0], []⟩ 8 (by kernel_rfl) (by kernel_rfl) (by kernel_rfl) (by kernel_rfl)) ?_
  intro W base args ds gs before hval0 hW hcnd hsz0 _
  have hval : ∀ (j : Nat) t v, Try.f7.params[j]? = some t → args[j]? = some v → Value.okWide Try.prog W .any base t v := hval0
  have hsz : (DataW.weightsEach Try.prog (Try.f7.params.toList ++ Rows.uploadJoinsSpec.plain.varTypes Try.prog) (ds ++ gs)).all (· ≤ reachBytes) = true := hsz0
  have hW' := hW
  obtain ⟨p, q, hA0, hV, rfl, hfz, hnd⟩ := hW
  have hA : DataW.TrodAll enc Try.prog W 0 (fun _ => true) true Try.f7.params.toList args.toList ds p := hA0
  rw [Try.params7] at hA hval hsz
  obtain ⟨v0, vs0, d0, ds0, p0, q0, hargs, rfl, rfl, h0, r0⟩ := trodAll_cons hA
  obtain ⟨v1, vs1, d1, ds1, p1, q1, rfl, rfl, rfl, h1, r1⟩ := trodAll_cons r0
  obtain ⟨rfl, rfl, rfl⟩ := trodAll_nil r1
  obtain rfl : args = #[v0, v1] := by cases args; simp_all
  obtain ⟨rfl, rfl⟩ := trodVars_none hV
  have k0 := h0
  have k1 := h1
  have lt0 : ∀ x ∈ p0, x.block < W.heap.size := by obtain ⟨m, hm⟩ := k0; exact DataW.trod_lt m _ _ _ hm
  have lt1 : ∀ x ∈ p1, x.block < W.heap.size := by obtain ⟨m, hm⟩ := k1; exact DataW.trod_lt m _ _ _ hm
  have z0 : ∀ n ∈ d0.weights Try.prog 36, n ≤ 140737488351232 := fun n hn => by
    have := List.all_eq_true.1 hsz n (DataW.weights_mem_each (j := 0) rfl rfl n hn)
    exact (of_decide_eq_true this : n ≤ reachBytes)
  have z1 : ∀ n ∈ d1.weights Try.prog 37, n ≤ 140737488351232 := fun n hn => by
    have := List.all_eq_true.1 hsz n (DataW.weights_mem_each (j := 1) rfl rfl n hn)
    exact (of_decide_eq_true this : n ≤ reachBytes)
  obtain ⟨a0, a1, a2, a3, A, c, l, rfl, hC, hlc, hB⟩ := open_upload (hval 0 36 v0 rfl rfl) h0 z0
  obtain ⟨A1, c1, L, rfl, hC1, hlc1, hwf⟩ : ∃ (A1 : Option Addr) (c1 : Nat) (L : List Int), v1 = .slice A1 L.length c1 ∧ Kd.C (Kd.int .i64) W A1 L.length L ∧ L.length ≤ c1 ∧ ∀ n ∈ L, (Lit.int .i64 n).wf = true := by
    obtain ⟨A0, l0, c0, rfl⟩ := okWide_slice Try.underlying37 (hval 1 37 v1 rfl rfl)
    obtain ⟨fuel, hf⟩ := h1
    obtain ⟨A1, c1, L, e, r1, r2, _, r3⟩ := open_intsC (B := 8) Try.underlying37 Try.underlying3 (by kernel_rfl) (by kernel_rfl) (by decide) hf z1
    have e' : Value.slice A0 l0 c0 = .slice A1 L.length c1 := by simpa [Value.cells] using e
    exact ⟨A1, c1, L, e', r1, r2, r3⟩
  have hw : ∀ i, -9223372036854775808 ≤ L.getD i 0 ∧ L.getD i 0 ≤ 9223372036854775807 := fun i => by
    by_cases hi : i < L.length
    · have hm := hwf _ (List.getElem_mem hi)
      rw [List.getD_eq_getElem?_getD, List.getElem?_eq_getElem hi]
      simp only [Lit.wf, Bool.and_eq_true, decide_eq_true_eq] at hm
      simpa [IntKind.min, IntKind.max, IntKind.bits, IntKind.signed] using hm
    · rw [List.getD_eq_getElem?_getD, List.getElem?_eq_none (by omega)]
      simp
  clear hA0 hval0 hsz hsz0 z0 z1
  simp only [List.append_nil] at hW'
  refine (stelelaw16_UploadJoins.calls 400000 a0 a1 a2 a3 A c l A1 c1 L true W hC hlc hC1 hlc1 (joins_pure a0 a1 a2 a3 l L hB hw 400000 (Nat.le_refl _))).mono fun e W' ⟨he, bel⟩ => ?_
  subst he
  have back0 := Below.trod laidOut (by kernel_rfl) (of_decide_eq_true (by kernel_rfl)) k0 bel lt0
  have back1 := Below.trod laidOut (by kernel_rfl) (of_decide_eq_true (by kernel_rfl)) k1 bel lt1
  exact ⟨_, rfl, _, _, _, [], _, [], hW', trodAll_mk1 (shut_bool Try.underlying4 _), (trodAll_cons_mk back0 (trodAll_cons_mk back1 trodAll_mk0)), rfl, bel.frame _, fun h => by cases h⟩

theorem over : Rows.uploadJoinsRow.holds Try.pinned (OpenSpec.ofChange Rows.uploadJoinsSpec) :=
  OpenClaim.holds_of_wide 7 Try.f7 rfl rfl rfl rfl rfl rfl rfl ⟨rfl, rfl, rfl, rfl, rfl⟩ rfl rfl rfl rfl rfl (by kernel_rfl) Try.func7 (by kernel_rfl)
    (of_decide_eq_true (by kernel_rfl)) (by unfold Func.isWrapper; first | (rw [if_pos (by decide +kernel)]; kernel_rfl) | (rw [if_neg (by decide +kernel)]; exact ⟨rfl, rfl⟩))
    (fun os started H enc _ => lifted os started H enc)

theorem proved : Rows.UploadJoinsSaid :=
  over
#print axioms proved
end Go.Proofs.Ytdfkinkihkgdbaa.uploadJoins
