/- The walks of Canon's comparison, and of the sort of pairs. -/
import Derived.Test.YtdfkinkihkgdbaaDoorJoin
import Derived.Test.YtdfkinkihkgdbaaDoorUriB
import Derived.Shelf.SlSortCmp.NoneTotal
import Derived.Deep.RegionHeld3
set_option linter.unusedVariables false
namespace Go.Proofs.YtdfkinkihkgdbaaDoor
open Go.RowKit

set_option maxHeartbeats 1000000 in
theorem or_int (l : List Int) (ad : Addr) (c : Nat) (w : World) (hl : l.length ≤ 1000000000) (hc : ∀ i, i < l.length → w.cell? (ad.add i) = some (.int .i64 (l.getD i 0))) :
    Calls Tryd.prog 26 #[.slice (some ad) l.length c] w fun e w' => e = .returned (.int .i64 (orZ l)) ∧ w = w' := by
  have hO := fun k h => Lib.hid (orZ_drop l k h)
  have hE : Hid (orZ (l.drop l.length) = 0) := by show _ = _; rw [List.drop_length]; rfl
  have h0 : Hid (orZ l = orZ (l.drop 0)) := rfl
  obtain ⟨n, hn⟩ : ∃ n, n = l.length := ⟨_, rfl⟩
  rw [← hn] at hl hc hO hE ⊢
  clear hn
  obtain ⟨f, hf⟩ : ∃ f : Nat → Int, ∀ i, l.getD i 0 = f i := ⟨_, fun _ => rfl⟩
  simp only [hf] at hc hO
  clear hf
  go_enter Tryd.func26, Tryd.ntmps26
  go_wp2

  go_loop [8] (fun i => ∃ k : Nat, k ≤ n ∧ i = .int .i64 k ∧ Hid (orZ l = orZ (l.drop k))) (fun i => n - (intOf i).toNat)
  case atStart => exact ⟨0, Nat.zero_le _, rfl, h0⟩
  case round =>
    obtain ⟨k, hk, rfl, hr⟩ := hrel
    by_cases hlt : k < n
    · have hck := hc k hlt
      have hok := hO k hlt
      clear hc hO
      by_cases hz : f k = 0
      · have hz1 : (f k != 0) = false := by simp [hz]
        have Hz := Lib.hid hz
        clear hz
        go_wp2
        go_round
        case rel => exact ⟨k + 1, by omega, by go_num, by show _ = _; rw [hr.out, hok.out, if_pos Hz.out]⟩
        case measure => simp [intOf]; omega
      · have hz1 : (f k != 0) = true := by simp [hz]
        have Hz := Lib.hid hz
        clear hz
        go_wp2
        go_ret
        exact ⟨by rw [hr.out, hok.out, if_neg Hz.out]; rfl, rfl⟩
    · have hkn : Hid (k = n) := by show _ = _; omega
      clear hc
      go_wp2
      go_ret
      exact ⟨by rw [hr.out, hkn.out, hE.out]; rfl, rfl⟩

theorem or_int2 (fa fb : Int) (w : World) : Calls Tryd.prog 26 #[.slice (some ⟨w.heap.size, 0, none⟩) 2 2] (w.alloc (.cells #[.int .i64 fa, .int .i64 fb] 3)).drew fun e w' => e = .returned (.int .i64 (orZ [fa, fb])) ∧ (w.alloc (.cells #[.int .i64 fa, .int .i64 fb] 3)).drew = w' :=
  or_int [fa, fb] _ _ _ (by simp) fun i hi => by
    match i, hi with
    | 0, _ => simp [Addr.add]
    | 1, _ => simp [Addr.add]

theorem nan_str (x : List UInt8) (w : World) : Calls Tryd.prog 40 #[str x] w fun e w' => e = .returned (.bool false) ∧ w = w' := by
  go_enter Tryd.func40, Tryd.ntmps40
  go_wp2
  go_ret
  exact ⟨rfl, rfl⟩

theorem cmp_str (x y : List UInt8) (w : World) : Calls Tryd.prog 27 #[str x, str y] w fun e w' => e = .returned (.int .i64 (Uri.cmpS x y)) ∧ w = w' := by
  have h1 : ∀ q, Op.bytesLess x y = q → Hid (Uri.lt x y = q) := fun q h => h
  go_enter Tryd.func27, Tryd.ntmps27
  go_wp2_with (first
    | (go_at_call_of 40 (str x); refine (nan_str x _).mono ?_; rintro e w2 ⟨rfl, rfl⟩)
    | (go_at_call_of 40 (str y); refine (nan_str y _).mono ?_; rintro e w2 ⟨rfl, rfl⟩))
  all_goals
    clear h1
    go_ret
    refine ⟨?_, rfl⟩
    unfold Uri.cmpS Uri.gtB Uri.lt
    simp_all

theorem cmpP_or (a b : Uri.Pr) : orZ [Uri.cmpS a.1 b.1, Uri.cmpS a.2 b.2] = Uri.cmpP a b := by
  unfold Uri.cmpP
  by_cases h : Uri.cmpS a.1 b.1 = 0
  · by_cases k : Uri.cmpS a.2 b.2 = 0 <;> simp [orZ, h, k]
  · simp [orZ, h]

/-- A pair's cells. -/
def encP (p : Uri.Pr) : List Value := [str p.1, str p.2]

set_option maxRecDepth 100000 in
set_option maxHeartbeats 4000000 in
theorem canon_cmp (a b : Uri.Pr) (W : World) :
    Calls Tryd.prog 25 #[.agg #[str a.1, str a.2], .agg #[str b.1, str b.2]] W fun e w' => e = .returned (.int .i64 (Uri.cmpP a b)) ∧ ∃ q os', w' = Sort.grow (W.drewN q) os' := by
  have hP := Lib.hid (cmpP_or a b)
  obtain ⟨a1, a2⟩ := a
  obtain ⟨b1, b2⟩ := b
  simp only at hP ⊢
  generalize Uri.cmpP (a1, a2) (b1, b2) = r at *
  obtain ⟨r1, h1⟩ : ∃ r1, Uri.cmpS a1 b1 = r1 := ⟨_, rfl⟩
  obtain ⟨r2, h2⟩ : ∃ r2, Uri.cmpS a2 b2 = r2 := ⟨_, rfl⟩
  have e1 := fun w => cmp_str a1 b1 w
  have e2 := fun w => cmp_str a2 b2 w
  rw [h1] at e1
  rw [h2] at e2
  rw [h1, h2] at hP
  clear h1 h2
  have e3 := fun w => or_int2 r1 r2 w
  rw [hP.out] at e3
  clear hP
  go_enter Tryd.func25, Tryd.ntmps25
  go_wp2
  have c1 : ((W.alloc (.cells #[str a1, str a2] 37)).alloc (.cells #[str b1, str b2] 37)).cell? ⟨W.heap.size, 0, none⟩ = some (str a1) := by simp
  have c2 : ((W.alloc (.cells #[str a1, str a2] 37)).alloc (.cells #[str b1, str b2] 37)).cell? ⟨W.heap.size, 1, none⟩ = some (str a2) := by simp
  have c3 : ((W.alloc (.cells #[str a1, str a2] 37)).alloc (.cells #[str b1, str b2] 37)).cell? ⟨W.heap.size + 1, 0, none⟩ = some (str b1) := by simp
  have c4 : ((W.alloc (.cells #[str a1, str a2] 37)).alloc (.cells #[str b1, str b2] 37)).cell? ⟨W.heap.size + 1, 1, none⟩ = some (str b2) := by simp
  have hG : Hid (∃ os, (W.alloc (.cells #[str a1, str a2] 37)).alloc (.cells #[str b1, str b2] 37) = Sort.grow W os) := ⟨_, by rw [Sort.alloc_eq_grow, Sort.alloc_eq_grow, Sort.grow_grow]⟩
  generalize (W.alloc (.cells #[str a1, str a2] 37)).alloc (.cells #[str b1, str b2] 37) = V at *
  generalize W.heap.size = p at *
  go_region_held3 (fun w' => w'.cell? ⟨p, 0, none⟩ = some (str a1) ∧ w'.cell? ⟨p, 1, none⟩ = some (str a2) ∧ w'.cell? ⟨p + 1, 0, none⟩ = some (str b1) ∧ w'.cell? ⟨p + 1, 1, none⟩ = some (str b2)) (go_keep)
    (first
    | (go_at_call_of 27 (str a1); refine (e1 _).mono ?_; rintro e w2 ⟨rfl, rfl⟩)
    | (go_at_call_of 27 (str a2); refine (e2 _).mono ?_; rintro e w2 ⟨rfl, rfl⟩)
    | (go_at_call 26; refine (e3 _).mono ?_; rintro e w2 ⟨rfl, rfl⟩))
  all_goals
    go_wp2
    go_ret
    obtain ⟨os, rfl⟩ := hG.out
    exact ⟨rfl, 1, os ++ #[.cells #[.int .i64 r1, .int .i64 r2] 3], by rw [Sort.alloc_eq_grow, Sort.grow_grow]; rfl⟩

/-- Pairs' cells, one behind the other. -/
def pcs (ps : List Uri.Pr) : List Value := ps.flatMap encP

theorem pcs_length (ps : List Uri.Pr) : (pcs ps).length = ps.length * 2 := by
  induction ps with
  | nil => rfl
  | cons p t ih => simp [pcs, encP] at ih ⊢; omega

theorem pcs_snoc (ps : List Uri.Pr) (p : Uri.Pr) : pcs (ps ++ [p]) = pcs ps ++ encP p := by simp [pcs]
theorem pcs_append (ps qs : List Uri.Pr) : pcs (ps ++ qs) = pcs ps ++ pcs qs := by simp [pcs]

theorem encP_cell (p : Uri.Pr) : ∀ v ∈ encP p, v.oneCell' = true := by
  intro v hv; simp [encP] at hv; rcases hv with rfl | rfl <;> rfl

theorem pcs_cell (ps : List Uri.Pr) : ∀ v ∈ pcs ps, v.oneCell' = true := by
  intro v hv
  obtain ⟨p, _, hp⟩ := List.mem_flatMap.1 hv
  exact encP_cell p v hp

theorem pcs_get : ∀ (ps : List Uri.Pr) (j : Nat), j < ps.length → (pcs ps)[j * 2]? = some (str (ps.getD j ([], [])).1) ∧ (pcs ps)[j * 2 + 1]? = some (str (ps.getD j ([], [])).2)
  | p :: t, 0, _ => ⟨rfl, rfl⟩
  | p :: t, j + 1, h => by
    have ih := pcs_get t j (by simpa using h)
    have e : pcs (p :: t) = str p.1 :: str p.2 :: pcs t := rfl
    rw [e, show (j + 1) * 2 = j * 2 + 1 + 1 by omega]
    simp only [List.getElem?_cons_succ, List.getD_cons_succ]
    exact ih

/-- Where pairs are read. -/
def PRow (w : World) (A : Option Addr) (ps : List Uri.Pr) : Prop :=
  0 < ps.length → ∃ g o, A = some ⟨g, o, none⟩ ∧ g < w.heap.size ∧ ∀ j, j < ps.length → w.cell? ⟨g, o + j * 2, none⟩ = some (str (ps.getD j ([], [])).1) ∧ w.cell? ⟨g, o + j * 2 + 1, none⟩ = some (str (ps.getD j ([], [])).2)

/-- A value that reads as pairs. -/
def PVal (w : World) (v : Value) (ps : List Uri.Pr) : Prop := ∃ A c, v = .slice A ps.length c ∧ ps.length ≤ c ∧ PRow w A ps

theorem PRow.fr {M : Nat → Prop} {w w' : World} {A : Option Addr} {ps : List Uri.Pr} (h : PRow w A ps) (hf : Fr M w w') (hM : ∀ k, k < w.heap.size → ¬ M k) : PRow w' A ps := fun h0 => by
  obtain ⟨g, o, hA, hg, hc⟩ := h h0
  exact ⟨g, o, hA, Nat.lt_of_lt_of_le hg hf.size, fun j hj => ⟨hf.cell (hc j hj).1 (hM g hg), hf.cell (hc j hj).2 (hM g hg)⟩⟩

theorem PVal.fr {M : Nat → Prop} {w w' : World} {v : Value} {ps : List Uri.Pr} (h : PVal w v ps) (hf : Fr M w w') (hM : ∀ k, k < w.heap.size → ¬ M k) : PVal w' v ps := by
  obtain ⟨A, c, hv, hc, hr⟩ := h
  exact ⟨A, c, hv, hc, hr.fr hf hM⟩

theorem PVal.of_own {w : World} {base : Nat} {e : TypeId} {v : Value} {ps : List Uri.Pr} (h : w.ownsRow base e 2 v ps.length (pcs ps)) : PVal w v ps := by
  rcases h.2 with ⟨rfl, h0⟩ | ⟨g, cap, cur, rfl, hg, hh, hcap, _⟩
  · obtain rfl : ps = [] := List.eq_nil_of_length_eq_zero h0
    exact ⟨none, 0, rfl, Nat.le_refl _, fun h => by simp at h⟩
  · refine ⟨_, cap, rfl, hcap, fun _ => ⟨g, 0, rfl, block_lt hh, fun j hj => ?_⟩⟩
    have c1 := h.cells (g := g) rfl (j * 2) _ (pcs_get ps j hj).1
    have c2 := h.cells (g := g) rfl (j * 2 + 1) _ (pcs_get ps j hj).2
    rw [addr_add0] at c1 c2
    rw [Nat.zero_add]
    exact ⟨c1, c2⟩

theorem flat_pcs (ps : List Uri.Pr) (t : Nat) (ht : t < ps.length * 2) : (pcs ps)[t]? = some (Sort.flatK encP 2 ps.toArray)[t]! := by
  rw [Sort.get_flatK encP 2 ps.toArray t (by simpa using ht)]
  have hj : t / 2 < ps.length := by omega
  have h := pcs_get ps (t / 2) hj
  have hd : ps.toArray[t / 2]! = ps.getD (t / 2) ([], []) := by
    rw [getElem!_pos ps.toArray (t / 2) (by simpa using hj)]
    simp [List.getD_eq_getElem?_getD, List.getElem?_eq_getElem hj]
  rw [hd]
  rcases Nat.mod_two_eq_zero_or_one t with hm | hm
  · have e : t = t / 2 * 2 := by omega
    rw [hm]
    conv => lhs; rw [e]
    exact h.1
  · have e : t = t / 2 * 2 + 1 := by omega
    rw [hm]
    conv => lhs; rw [e]
    exact h.2

theorem Fr.sortWorld {w : World} {g n : Nat} {d : Array Uri.Pr} {os : Array Obj} {M : Nat → Prop} (hM : M g) : Fr M w (sortWorldK encP 2 w g 0 n d os) := by
  refine ⟨rfl, rfl, rfl, size_sortWorldK_c encP 2 w g 0 n d os, fun k hk hn => ?_⟩
  have hne : g ≠ k := fun e => hn (e ▸ hM)
  unfold sortWorldK Sort.putRowK
  rw [Sort.heap_grow_old _ _ (by simpa using hk)]
  simp [Sort.putRow, Sort.mapBlock, Sort.ahead, Array.getElem?_modify, hne]

theorem sort_pairs (es : List Uri.Pr) (base : Nat) (v : Value) (w : World) (hown : w.ownsRow base 37 2 v es.length (pcs es)) (hsz : es.length < 4611686018427387904) :
    Calls Tryd.prog 24 #[v, .func (.func 25) #[] #[]] w fun e w' => e = .returned (.tuple #[]) ∧ Fr (fun k => base ≤ k) w w' ∧ PVal w' v (Uri.sorted es) := by
  have hlen := Uri.sorted_length es
  have eg : ∀ args w, (callFunc 25 args).run Tryd.prog w = .ok (.enter 25 args) w := enters_of Tryd.func25 (by kernel_rfl) rfl
  rcases hown.2 with ⟨rfl, h0⟩ | ⟨g, cap, cur, rfl, hg, hh, hcap, _⟩
  · obtain rfl : es = [] := List.eq_nil_of_length_eq_zero h0
    have hcon := AnyF.slices_SortFunc_none Tryd.sortPair none 0 (.func (.func 25) #[] #[]) w
    change Calls Tryd.prog 24 _ _ _ at hcon
    refine hcon.mono ?_
    rintro e w' ⟨rfl, rfl⟩
    exact ⟨rfl, Fr.refl _ _, none, 0, by rw [hlen]; rfl, by rw [hlen]; exact Nat.le_refl _, fun h => by rw [hlen] at h; simp at h⟩
  · have hH : Sort.HoldsK encP 2 w g 0 es.toArray := fun j hj => by
      rw [Sort.size_flatK] at hj
      have c1 := hown.cells (g := g) rfl j _ (flat_pcs es j (by simpa using hj))
      rw [addr_add0] at c1
      rw [Nat.zero_add]
      exact ⟨c1, Lib.frozen_of_heap hh j⟩
    have hcon := AnyQ.slices_SortFunc_total Tryd.sortPair 2 Tryd.isAgg37 Tryd.sizeOf37 encP (fun _ => rfl) (fun x v hv => encP_cell x v hv) Uri.cmpP Uri.swo 25 #[] g 0 cap es.toArray w eg (fun _ _ _ _ x y => canon_cmp x y _) hH (block_lt hh) (by simpa using hsz) Uri.parts
    change Calls Tryd.prog 24 _ _ _ at hcon
    rw [List.size_toArray] at hcon
    refine hcon.mono ?_
    rintro e w' ⟨rfl, n, os, rfl⟩
    have hS := holdsK_sortWorldK_c encP 2 w g 0 es.toArray (Uri.sorted es).toArray n os hH (block_lt hh) (by simpa using hlen)
    change Fr (fun k => base ≤ k) w (sortWorldK encP 2 w g 0 n (Uri.sorted es).toArray os) |> fun X => _ ∧ X ∧ PVal (sortWorldK encP 2 w g 0 n (Uri.sorted es).toArray os) _ _
    refine ⟨rfl, Fr.sortWorld hg, some ⟨g, 0, none⟩, cap, by rw [hlen], by rw [hlen]; exact hcap, fun hp => ⟨g, 0, rfl, Nat.lt_of_lt_of_le (block_lt hh) (size_sortWorldK_c encP 2 w g 0 n _ os), fun j hj => ?_⟩⟩
    have f1 := flat_pcs (Uri.sorted es) (j * 2) (by omega)
    have f2 := flat_pcs (Uri.sorted es) (j * 2 + 1) (by omega)
    rw [(pcs_get (Uri.sorted es) j hj).1] at f1
    rw [(pcs_get (Uri.sorted es) j hj).2] at f2
    have s1 := (hS (j * 2) (by rw [Sort.size_flatK]; simp; omega)).1
    have s2 := (hS (j * 2 + 1) (by rw [Sort.size_flatK]; simp; omega)).1
    rw [← Option.some.inj f1] at s1
    rw [← Option.some.inj f2] at s2
    exact ⟨s1, by rw [Nat.add_assoc]; exact s2⟩
end Go.Proofs.YtdfkinkihkgdbaaDoor
