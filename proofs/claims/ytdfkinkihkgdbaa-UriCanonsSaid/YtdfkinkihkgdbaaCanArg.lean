/- What the argument of UriCanons reads as: a row of pairs. -/
import Derived.Test.YtdfkinkihkgdbaaCanV
import Derived.Deep.Slices
import Derived.ChangeSame
import Derived.ChangeMaps5
import Derived.SizedLaws
set_option linter.unusedVariables false
namespace Go.Proofs.Ytdfkinkihkgdbaa
open Go.RowKit Go.ChangeShapes Go.WideShapes
set_option maxRecDepth 100000

theorem cells_two {w : World} {a : Addr} {cs : List Value} (h : w.cells? 0 a 2 = some cs) : ∃ u v, cs = [u, v] ∧ w.cell? (a.add 0) = some u ∧ w.cell? (a.add 1) = some v := by
  unfold World.cells? at h
  rw [if_pos (Nat.zero_le _)] at h
  cases h0 : w.cell? (a.add 0) with
  | none => simp [List.range_succ, h0] at h
  | some u =>
    cases h1 : w.cell? (a.add 1) with
    | none => simp [List.range_succ, h0, h1] at h
    | some v => exact ⟨u, v, by simpa [List.range_succ, h0, h1] using h.symm, rfl, rfl⟩

theorem open_pair {H : Type} {enc : TypeId × Value → H} {w : World} {fuel : Nat} {a : Addr} {cs : List Value} {x : DataW H × List MemPlace} (hc : w.cells? 0 a 2 = some cs) (h : DataW.trod enc Try.prog w 0 (fun _ => true) true fuel 56 cs = some x) :
    ∃ q : Uri.Pr, w.cell? (a.add 0) = some (str q.1) ∧ w.cell? (a.add 1) = some (str q.2) ∧ x.1 = .agg [.lit (.string q.1), .lit (.string q.2)] := by
  obtain ⟨u, v, rfl, hu, hv⟩ := cells_two hc
  obtain ⟨y0, y1, n, rfl, _, h0, h1⟩ := trod_struct2 Try.underlying56 h
  obtain ⟨s0, e0, x0, _⟩ := DataW.trod_string Try.underlying9 h0
  obtain ⟨s1, e1, x1, _⟩ := DataW.trod_string Try.underlying9 h1
  have c1 : Try.prog.cellsOf 9 = 1 := by kernel_rfl
  rw [show (_ : Field).type = 9 from rfl, c1] at e0
  rw [show (_ : Field).type = 9 from rfl, c1] at e1
  have e0' : [u] = [Value.string s0] := e0
  have e1' : [v] = [Value.string s1] := e1
  have a0 : u = .string s0 := by simpa using e0'
  have a1 : v = .string s1 := by simpa using e1'
  refine ⟨(s0.data.toList, s1.data.toList), ?_, ?_, ?_⟩
  · rw [hu, a0]
  · rw [hv, a1]
  · rw [x0, x1]

theorem mem_weightsAll {H : Type} {P : Program} {e : TypeId} : ∀ {l : List (DataW H)} {d : DataW H} {n : Nat}, d ∈ l → n ∈ d.weights P e → n ∈ DataW.weightsAll P e l
  | d0 :: r, d, n, hd, hn => by
    simp only [DataW.weightsAll, List.mem_append]
    rcases List.mem_cons.1 hd with rfl | h
    · exact Or.inl hn
    · exact Or.inr (mem_weightsAll h hn)

theorem open_pairs {H : Type} {enc : TypeId × Value → H} {W : World} {v : Value} {d : DataW H} {p : List MemPlace} (hval : Value.okWide Try.prog W .any 0 54 v)
    (h : DataW.Trod enc Try.prog W 0 (fun _ => true) true 54 v d p) (hsz : ∀ n ∈ d.weights Try.prog 54, n ≤ 140737488351232) :
    ∃ (ps : List Uri.Pr) (A : Option Addr) (c : Nat), v = .slice A ps.length c ∧ PRow W A ps ∧ ∀ k, k < ps.length → (ps.getD k ([], [])).1.length + (ps.getD k ([], [])).2.length ≤ 4611686018427387904 := by
  obtain ⟨A0, l0, c0, rfl⟩ : ∃ A l c, v = .slice A l c := okWide_slice Try.underlying54 hval
  obtain ⟨fuel, hf⟩ := h
  rcases Go.Deep.open_slice Try.underlying54 hf with ⟨e, _⟩ | ⟨a, len, cap, m, n, D, Pl, e, _, hl, _, hm, hx, hcells⟩
  · have e' : (Value.slice A0 l0 c0) = .slice none 0 0 := by simpa [Value.cells] using e
    obtain ⟨q1, q2, q3⟩ := Value.slice.inj e'
    subst q1; subst q2; subst q3
    exact ⟨[], none, 0, rfl, fun h => absurd h (by simp), fun k hk => absurd hk (by simp)⟩
  · have e' : (Value.slice A0 l0 c0) = .slice (some a) len cap := by simpa [Value.cells] using e
    obtain ⟨q1, q2, q3⟩ := Value.slice.inj e'
    subst q1; subst q2; subst q3
    have hm' : m = c0 := hm
    have c2 : Try.prog.cellsOf 56 = 2 := by kernel_rfl
    have each : ∀ i, i < l0 → ∃ q : Uri.Pr, W.cell? ((a.add (i * 2)).add 0) = some (str q.1) ∧ W.cell? ((a.add (i * 2)).add 1) = some (str q.2) ∧ D i = .agg [.lit (.string q.1), .lit (.string q.2)] := by
      intro i hi
      obtain ⟨cs', h1, h2⟩ := hcells i (by omega)
      rw [c2] at h1
      exact open_pair h1 h2
    obtain ⟨f, hf'⟩ := Go.Deep.choose_lt each
    have hd : d = .slice ((List.range l0).map D) ((List.range (m - l0)).map fun j => D (l0 + j)) := congrArg Prod.fst hx
    have hlen : ((List.range l0).map f).length = l0 := by simp
    have hget : ∀ k, k < l0 → ((List.range l0).map f).getD k ([], []) = f k := fun k hk => by
      simp [List.getD, List.getElem?_map, List.getElem?_range hk]
    refine ⟨(List.range l0).map f, some a, c0, by rw [hlen], fun h0 => ?_, fun k hk => ?_⟩
    · rw [hlen] at h0
      obtain ⟨b, off, spot⟩ := a
      have hc0 := (hf' 0 h0).1
      have hspot : spot = none := by simpa [Addr.add] using World.cell?_spot hc0
      subst hspot
      refine ⟨b, off, rfl, by simpa [Addr.add] using World.block_lt_of_cell? W _ hc0, fun j hj => ?_⟩
      rw [hlen] at hj
      rw [hget j hj]
      obtain ⟨g0, g1, _⟩ := hf' j hj
      rw [Go.Deep.add_add] at g0 g1
      rw [Go.WideShapes.add_plain] at g0 g1
      exact ⟨g0, g1⟩
    · rw [hlen] at hk
      rw [hget k hk]
      have hmem : D k ∈ (List.range l0).map D := List.mem_map.2 ⟨k, List.mem_range.2 hk, rfl⟩
      have hall : ∀ n ∈ (D k).weights Try.prog 56, n ≤ 140737488351232 := fun n hn => by
        refine hsz n ?_
        rw [hd]
        simp only [DataW.weights, Try.underlying54, List.mem_cons, List.mem_append]
        exact Or.inr (Or.inl (mem_weightsAll hmem hn))
      rw [(hf' k hk).2.2] at hall
      have w1 := hall (f k).1.length (by simp [DataW.weights, Try.underlying56, DataW.weightsEach])
      have w2 := hall (f k).2.length (by simp [DataW.weights, Try.underlying56, DataW.weightsEach])
      omega
end Go.Proofs.Ytdfkinkihkgdbaa
