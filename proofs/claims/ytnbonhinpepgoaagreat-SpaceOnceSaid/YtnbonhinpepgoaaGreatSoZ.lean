/- The statement SpaceOnce is proved: for every input, with no condition, the Go function returns true, and its arguments read as they did. -/
import Derived.Test.YtnbonhinpepgoaaGreatSo1
import Derived.Test.YtnbonhinpepgoaaGreatRows
import Derived.WalkKit
import Derived.ProofKit
import Derived.OpenShut
import Derived.Below
import Derived.Carry
import Derived.SizedLaws
namespace Go.Proofs.YtnbonhinpepgoaaGreat.spaceOnce
open Go.ChangeShapes Go.WideShapes Go.ChangeAt Go.RowKit Go.Proofs.YtnbonhinpepgoaaGreat
set_option linter.unusedVariables false
theorem own : ownKnob Tryz.prog.godebug = none := by kernel_rfl
theorem laidOut : laidOutB Tryz.prog = true := by kernel_rfl
set_option maxRecDepth 100000 in
theorem lifted (os : Os) (started : os.Started) (H : Type) (enc : TypeId × Value → H) :
    ReturnsInHanded {} Tryz.checked os 5 .any (Rows.spaceOnceSpec.pre6 enc Tryz.prog Tryz.f5 Rows.spaceOnceRow.domain false) (Rows.spaceOnceSpec.post enc Tryz.prog Tryz.f5 false true false false) := by
  refine returnsInHanded_of_change_sized (C := Tryz.checked) own started (by kernel_rfl) Tryz.func5
    (ChangeSpec.witness6 (enc := enc) (C := Tryz.checked) false ⟨#[], #[.slice none 0 0], []⟩ 8 (by kernel_rfl) (by kernel_rfl) (by kernel_rfl) (by kernel_rfl)) ?_
  intro W base args ds gs before hval0 hW hcnd hsz0 _
  have hval : ∀ (j : Nat) t v, Tryz.f5.params[j]? = some t → args[j]? = some v → Value.okWide Tryz.prog W .any base t v := hval0
  have hsz : (DataW.weightsEach Tryz.prog (Tryz.f5.params.toList ++ Rows.spaceOnceSpec.plain.varTypes Tryz.prog) (ds ++ gs)).all (· ≤ reachBytes) = true := hsz0
  have hW' := hW
  obtain ⟨p, q, hA0, hV, rfl, hfz, hnd⟩ := hW
  have hA : DataW.TrodAll enc Tryz.prog W 0 (fun _ => true) true Tryz.f5.params.toList args.toList ds p := hA0
  rw [Tryz.params5] at hA hval hsz
  obtain ⟨v0, vs0, d0, ds0, p0, q0, hargs, rfl, rfl, h0, r0⟩ := trodAll_cons hA
  obtain ⟨rfl, rfl, rfl⟩ := trodAll_nil r0
  obtain rfl : args = #[v0] := by cases args; simp_all
  obtain ⟨rfl, rfl⟩ := trodVars_none hV
  have k0 := h0
  have lt0 : ∀ x ∈ p0, x.block < W.heap.size := by obtain ⟨m, hm⟩ := k0; exact DataW.trod_lt m _ _ _ hm
  have z0 : ∀ n ∈ d0.weights Tryz.prog 67, n ≤ 140737488351232 := fun n hn => by
    have := List.all_eq_true.1 hsz n (DataW.weights_mem_each (j := 0) rfl rfl n hn)
    exact (of_decide_eq_true this : n ≤ reachBytes)
  obtain ⟨L, A, c, rfl, hr⟩ := open_ops11 (hval 0 67 v0 rfl rfl) h0
  have hlen : (L.map fun q => (q.1, q.2.1)).length = L.length := List.length_map ..
  have hops : OpsR W A (L.map fun q => (q.1, q.2.1)) := ⟨fun hp => by
    obtain ⟨b, o, e, hq⟩ := hr (by rw [hlen] at hp; exact hp)
    refine ⟨b, o, e, fun j p hj => ?_⟩
    rw [List.getElem?_map] at hj
    obtain ⟨x, hx, rfl⟩ := Option.map_eq_some_iff.1 hj
    obtain ⟨g0, g1, _⟩ := hq j x hx
    exact ⟨g0, g1⟩⟩
  have hw := law_SpaceOnce (L.map fun q => (q.1, q.2.1)) A c W hops
  rw [hlen] at hw
  clear hA0 hval0 hsz hsz0 z0
  simp only [List.append_nil] at hW'
  refine (hw.mono fun e W' h => (show e = .returned (.bool true) ∧ Below W.heap.size W W' from ⟨h.1, h.2.below (Nat.le_refl _) (fun _ _ => id)⟩)).mono fun e W' ⟨he, bel⟩ => ?_
  subst he
  have back0 := Below.trod laidOut (by kernel_rfl) (of_decide_eq_true (by kernel_rfl)) k0 bel lt0
  exact ⟨_, rfl, _, _, _, [], _, [], hW', trodAll_mk1 (shut_bool Tryz.underlying4 _), (trodAll_cons_mk back0 trodAll_mk0), rfl, bel.frame _, fun h => by cases h⟩
theorem over : Rows.spaceOnceRow.holds Tryz.pinned (OpenSpec.ofChange Rows.spaceOnceSpec) :=
  OpenClaim.holds_of_wide 5 Tryz.f5 rfl rfl rfl rfl rfl rfl rfl ⟨rfl, rfl, rfl, rfl, rfl⟩ rfl rfl rfl rfl rfl (by kernel_rfl) Tryz.func5 (by kernel_rfl)
    (of_decide_eq_true (by kernel_rfl)) (by unfold Func.isWrapper; first | (rw [if_pos (by decide +kernel)]; kernel_rfl) | (rw [if_neg (by decide +kernel)]; exact ⟨rfl, rfl⟩))
    (fun os started H enc _ => lifted os started H enc)
theorem proved : Rows.SpaceOnceSaid :=
  over
#print axioms proved
end Go.Proofs.YtnbonhinpepgoaaGreat.spaceOnce
