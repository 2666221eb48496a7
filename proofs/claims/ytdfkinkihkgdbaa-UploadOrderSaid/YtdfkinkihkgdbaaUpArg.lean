/- What the arguments of the Upload laws read as: an upload, its parts, rows of numbers. -/
import Derived.Test.YtdfkinkihkgdbaaPUpx0
import Derived.Deep.Slices
import Derived.ChangeSame
import Derived.ChangeSlices
import Derived.ChangeMaps5
import Derived.SizedLaws
import Derived.Lib.SmallJoins
set_option linter.unusedVariables false
set_option maxRecDepth 100000
namespace Go.Proofs.Ytdfkinkihkgdbaa.PUp
open Go.RowKit Go.ChangeShapes Go.WideShapes Go.Proofs.YtdfkinkihkgdbaaW.PrintWords Go.Proofs.YtdfkinkihkgdbaaW.PrintLast Go.Proofs.YtdfkinkihkgdbaaW.PrintMore

theorem ucells_two {w : World} {a : Addr} {cs : List Value} (h : w.cells? 0 a 2 = some cs) : ∃ u v, cs = [u, v] ∧ w.cell? (a.add 0) = some u ∧ w.cell? (a.add 1) = some v := by
  unfold World.cells? at h
  rw [if_pos (Nat.zero_le _)] at h
  cases h0 : w.cell? (a.add 0) with
  | none => simp [List.range_succ, h0] at h
  | some u =>
    cases h1 : w.cell? (a.add 1) with
    | none => simp [List.range_succ, h0, h1] at h
    | some v => exact ⟨u, v, by simpa [List.range_succ, h0, h1] using h.symm, rfl, rfl⟩

theorem umem_weightsAll {H : Type} {P : Program} {e : TypeId} : ∀ {l : List (DataW H)} {d : DataW H} {n : Nat}, d ∈ l → n ∈ d.weights P e → n ∈ DataW.weightsAll P e l
  | d0 :: r, d, n, hd, hn => by
    simp only [DataW.weightsAll, List.mem_append]
    rcases List.mem_cons.1 hd with rfl | h
    · exact Or.inl hn
    · exact Or.inr (umem_weightsAll h hn)

/-- A row of whole numbers. -/
theorem open_intsC {H : Type} {enc : TypeId × Value → H} {W : World} {t e : TypeId} {k : IntKind} {B fuel : Nat} {cs : List Value} {x : DataW H × List MemPlace} (ht : Try.prog.underlying t = some (.slice e)) (he : Try.prog.underlying e = some (.int k)) (hc : Try.prog.cellsOf e = 1) (hB : Try.prog.bytesOf e = B) (hB0 : 0 < B)
    (h : DataW.trod enc Try.prog W 0 (fun _ => true) true fuel t cs = some x) (hsz : ∀ n ∈ x.1.weights Try.prog t, n ≤ 140737488351232) :
    ∃ (A : Option Addr) (c : Nat) (l : List Int), cs = [.slice A l.length c] ∧ Kd.C (Kd.int k) W A l.length l ∧ l.length ≤ c ∧ l.length ≤ 140737488351232 ∧ ∀ n ∈ l, (Lit.int k n).wf = true := by
  rcases open_ints ht he hc h with ⟨rfl, _⟩ | ⟨a, len, cap, zs, rfl, _, hl, hm, hz, hx, hcell, hwz⟩
  · exact ⟨none, 0, [], rfl, Kd.C_nil _ _, Nat.le_refl _, by simp, fun n hn => by simp at hn⟩
  · have hz' : zs.length = cap := by simpa using hz
    obtain ⟨l, rfl, hr, _, hwl, hlc⟩ := ReadsInt.ofRowC (k := k) (w := W) (a := some a) (len := len) (cap := cap) (zs := zs) (.inr ⟨a, rfl, hl, hm, hz', hcell, hwz⟩)
    refine ⟨some a, cap, l, rfl, Kd.C_of_reads (d := (0 : Int)) (h1 := fun _ => rfl) hr, hlc, ?_, hwl⟩
    have hn := hsz (((lits (H := H) k (zs.take l.length)).length + (lits (H := H) k (zs.drop l.length)).length) * B) (by rw [hx]; simp [DataW.weights, ht, hB])
    have h1 : (lits (H := H) k (zs.take l.length)).length + (lits (H := H) k (zs.drop l.length)).length = zs.length := by
      simp [lits]
      omega
    rw [h1, hz'] at hn
    have : cap ≤ cap * B := Nat.le_mul_of_pos_right _ hB0
    omega

theorem open_part {H : Type} {enc : TypeId × Value → H} {W : World} {fuel : Nat} {a : Addr} {cs : List Value} {x : DataW H × List MemPlace} (hc : W.cells? 0 a 2 = some cs) (h : DataW.trod enc Try.prog W 0 (fun _ => true) true fuel 50 cs = some x) (hsz : ∀ n ∈ x.1.weights Try.prog 50, n ≤ 140737488351232) :
    ∃ (q : S50) (A1 : Option Addr) (c1 : Nat), W.cell? (a.add 0) = some (.int .i64 q.f0) ∧ W.cell? (a.add 1) = some (.slice A1 q.f1.length c1) ∧ q.f1.length ≤ c1 ∧ Kd.C (Kd.int .u8) W A1 q.f1.length q.f1 ∧ q.f1.length ≤ 140737488351232 := by
  obtain ⟨u, v, rfl, hu, hv⟩ := ucells_two hc
  obtain ⟨y0, y1, n, rfl, _, h0, h1⟩ := trod_struct2 Try.underlying50 h
  have c3 : Try.prog.cellsOf 3 = 1 := by kernel_rfl
  have c39 : Try.prog.cellsOf 39 = 1 := by kernel_rfl
  rw [show (_ : Field).type = 3 from rfl, c3] at h0
  rw [show (_ : Field).type = 39 from rfl, c39] at h1
  have h0' : DataW.trod enc Try.prog W 0 (fun _ => true) true n 3 [u] = some y0 := h0
  have h1' : DataW.trod enc Try.prog W 0 (fun _ => true) true n 39 [v] = some y1 := h1
  obtain ⟨m, e0, x0, _⟩ := DataW.trod_int Try.underlying3 h0'
  obtain ⟨A1, c1, l, e1, hC, hlc, hlb, _⟩ := open_intsC (B := 1) Try.underlying39 Try.underlying5 (by kernel_rfl) (by kernel_rfl) (by decide) h1' (fun n hn => hsz n (by
    simp only [DataW.weights, Try.underlying50]
    exact DataW.weights_mem_each (j := 1) rfl rfl n hn))
  have a0 : u = .int .i64 m := by simpa using e0
  have a1 : v = .slice A1 l.length c1 := by simpa using e1
  exact ⟨⟨m, l⟩, A1, c1, by rw [hu, a0], by rw [hv, a1], hlc, hC, hlb⟩

theorem open_parts {H : Type} {enc : TypeId × Value → H} {W : World} {fuel : Nat} {cs : List Value} {x : DataW H × List MemPlace} (hf : DataW.trod enc Try.prog W 0 (fun _ => true) true fuel 34 cs = some x) (hsz : ∀ n ∈ x.1.weights Try.prog 34, n ≤ 140737488351232) :
    ∃ (A : Option Addr) (c : Nat) (l : List S50), cs = [.slice A l.length c] ∧ Kd.C k50 W A l.length l ∧ l.length ≤ c ∧ ∀ j, (l.getD j z50).f1.length ≤ 140737488351232 := by
  rcases Go.Deep.open_slice Try.underlying34 hf with ⟨rfl, _⟩ | ⟨a, len, cap, m, n, D, Pl, rfl, _, hl, hmx, hm, hx, hcells⟩
  · exact ⟨none, 0, [], rfl, Kd.C_nil _ _, Nat.le_refl _, fun j => by simp [z50]⟩
  · have hm' : m = cap := hm
    have c2 : Try.prog.cellsOf 50 = 2 := by kernel_rfl
    have hd : x.1 = .slice ((List.range len).map D) ((List.range (m - len)).map fun j => D (len + j)) := congrArg Prod.fst hx
    have each : ∀ i, i < len → ∃ q : S50 × Option Addr × Nat, W.cell? ((a.add (i * 2)).add 0) = some (.int .i64 q.1.f0) ∧ W.cell? ((a.add (i * 2)).add 1) = some (.slice q.2.1 q.1.f1.length q.2.2) ∧ q.1.f1.length ≤ q.2.2 ∧ Kd.C (Kd.int .u8) W q.2.1 q.1.f1.length q.1.f1 ∧ q.1.f1.length ≤ 140737488351232 := by
      intro i hi
      obtain ⟨cs', h1, h2⟩ := hcells i (by omega)
      rw [c2] at h1
      have hmem : D i ∈ (List.range len).map D := List.mem_map.2 ⟨i, List.mem_range.2 hi, rfl⟩
      obtain ⟨q, A1, c1, r1, r2, r3, r4, r5⟩ := open_part h1 h2 (fun n hn => hsz n (by
        rw [hd]
        simp only [DataW.weights, Try.underlying34, List.mem_cons, List.mem_append]
        exact Or.inr (Or.inl (umem_weightsAll hmem hn))))
      exact ⟨(q, A1, c1), r1, r2, r3, r4, r5⟩
    haveI : Inhabited (S50 × Option Addr × Nat) := ⟨(z50, none, 0)⟩
    obtain ⟨f, hf'⟩ := Go.Deep.choose_lt each
    have hlen : ((List.range len).map fun i => (f i).1).length = len := by simp
    have hget : ∀ k, k < len → ((List.range len).map fun i => (f i).1)[k]? = some (f k).1 := fun k hk => by
      simp [List.getElem?_map, List.getElem?_range hk]
    refine ⟨some a, cap, (List.range len).map fun i => (f i).1, by rw [hlen], ⟨rfl, by rw [hlen]; unfold maxLen at hmx; omega, fun _ => ⟨a, rfl, fun j p hj => ?_⟩⟩, by rw [hlen]; exact hl, fun j => ?_⟩
    · have hjl : j < len := by have := (List.getElem?_eq_some_iff.1 hj).1; rwa [hlen] at this
      rw [hget j hjl] at hj
      obtain rfl := Option.some.inj hj
      obtain ⟨g0, g1, g2, g3, _⟩ := hf' j hjl
      rw [Go.Deep.add_add] at g0 g1
      refine ⟨[.int .i64 (f j).1.f0, .slice (f j).2.1 (f j).1.f1.length (f j).2.2], rfl, k50_mk W _ g2 g3, fun i u hu => ?_⟩
      match i, hu with
      | 0, hu =>
        have e : Value.int .i64 (f j).1.f0 = u := by simpa using hu
        rw [← e]; exact g0
      | 1, hu =>
        have e : Value.slice (f j).2.1 (f j).1.f1.length (f j).2.2 = u := by simpa using hu
        rw [← e]; exact g1
      | i + 2, hu => simp at hu
    · by_cases hjl : j < len
      · rw [List.getD_eq_getElem?_getD, hget j hjl]
        exact (hf' j hjl).2.2.2.2
      · rw [List.getD_eq_getElem?_getD, List.getElem?_eq_none (by rw [hlen]; omega)]
        simp [z50]

theorem open_upload {H : Type} {enc : TypeId × Value → H} {W : World} {v : Value} {d : DataW H} {p : List MemPlace} (hval : Value.okWide Try.prog W .any 0 36 v) (h : DataW.Trod enc Try.prog W 0 (fun _ => true) true 36 v d p) (hsz : ∀ n ∈ d.weights Try.prog 36, n ≤ 140737488351232) :
    ∃ (a0 a1 : ByteArray) (a2 a3 : Int) (A : Option Addr) (c : Nat) (l : List S50), v = .agg #[.string a0, .string a1, .int .u64 a2, .int .u64 a3, .slice A l.length c] ∧ Kd.C k50 W A l.length l ∧ l.length ≤ c ∧ ∀ j, (l.getD j z50).f1.length ≤ 140737488351232 := by
  have c36 : Try.prog.cellsOf 36 = 5 := by kernel_rfl
  obtain ⟨cs, rfl, hcs⟩ := okWide_struct Try.underlying36 hval
  rw [c36] at hcs
  obtain ⟨v0, v1, v2, v3, v4, rfl⟩ : ∃ v0 v1 v2 v3 v4, cs = #[v0, v1, v2, v3, v4] := by
    obtain ⟨l⟩ := cs
    match l, hcs with
    | [v0, v1, v2, v3, v4], _ => exact ⟨v0, v1, v2, v3, v4, rfl⟩
  obtain ⟨fuel, hf⟩ := h
  obtain ⟨xs, n, rfl, hx, _, hxl, hfs⟩ := DataW.trod_struct Try.underlying36 hf
  have hcells : (Value.agg #[v0, v1, v2, v3, v4]).cells.toList = [v0, v1, v2, v3, v4] := rfl
  rw [hcells] at hfs
  obtain ⟨y0, y1, y2, y3, y4, rfl⟩ : ∃ y0 y1 y2 y3 y4, xs = [y0, y1, y2, y3, y4] := by
    match xs, hxl with
    | [y0, y1, y2, y3, y4], _ => exact ⟨y0, y1, y2, y3, y4, rfl⟩
  have c9 : Try.prog.cellsOf 9 = 1 := by kernel_rfl
  have c33 : Try.prog.cellsOf 33 = 1 := by kernel_rfl
  have c34 : Try.prog.cellsOf 34 = 1 := by kernel_rfl
  have f0 := hfs 0 _ rfl
  have f1 := hfs 1 _ rfl
  have f2 := hfs 2 _ rfl
  have f3 := hfs 3 _ rfl
  have f4 := hfs 4 _ rfl
  rw [show (_ : Field).type = 9 from rfl, c9] at f0 f1
  rw [show (_ : Field).type = 33 from rfl, c33] at f2 f3
  rw [show (_ : Field).type = 34 from rfl, c34] at f4
  have f0' : DataW.trod enc Try.prog W 0 (fun _ => true) true n 9 [v0] = some y0 := f0
  have f1' : DataW.trod enc Try.prog W 0 (fun _ => true) true n 9 [v1] = some y1 := f1
  have f2' : DataW.trod enc Try.prog W 0 (fun _ => true) true n 33 [v2] = some y2 := f2
  have f3' : DataW.trod enc Try.prog W 0 (fun _ => true) true n 33 [v3] = some y3 := f3
  have f4' : DataW.trod enc Try.prog W 0 (fun _ => true) true n 34 [v4] = some y4 := f4
  obtain ⟨s0, e0, _, _⟩ := DataW.trod_string Try.underlying9 f0'
  obtain ⟨s1, e1, _, _⟩ := DataW.trod_string Try.underlying9 f1'
  obtain ⟨m2, e2, _, _⟩ := DataW.trod_int Try.underlying33 f2'
  obtain ⟨m3, e3, _, _⟩ := DataW.trod_int Try.underlying33 f3'
  have hd : d = .agg [y0.1, y1.1, y2.1, y3.1, y4.1] := congrArg Prod.fst hx
  obtain ⟨A, c, l, e4, hC, hlc, hlb⟩ := open_parts f4' (fun n hn => hsz n (by
    rw [hd]
    simp only [DataW.weights, Try.underlying36]
    exact DataW.weights_mem_each (j := 4) rfl rfl n hn))
  have a0 : v0 = .string s0 := by simpa using e0
  have a1 : v1 = .string s1 := by simpa using e1
  have a2 : v2 = .int .u64 m2 := by simpa using e2
  have a3 : v3 = .int .u64 m3 := by simpa using e3
  have a4 : v4 = .slice A l.length c := by simpa using e4
  exact ⟨s0, s1, m2, m3, A, c, l, by rw [a0, a1, a2, a3, a4], hC, hlc, hlb⟩
end Go.Proofs.Ytdfkinkihkgdbaa.PUp
