/- Contracts of Go functions, walked; written by a program out of the translation and of contracts of this work. -/
import Derived.Test.YtdfkinkihkgdbaaPUpx0
import Derived.Test.YtdfkinkihkgdbaaPUpx1
import Derived.Test.YtdfkinkihkgdbaaPUpx2
namespace Go.Proofs.Ytdfkinkihkgdbaa.PUp
open Go.RowKit Go.Proofs.YtdfkinkihkgdbaaW.PrintWords Go.Proofs.YtdfkinkihkgdbaaW.PrintLast Go.Proofs.YtdfkinkihkgdbaaW.PrintMore
attribute [local go_sem] max2_int min2_int max_two min_two max_three min_three max_four min_four   -- for this text's walks alone
set_option linter.unusedVariables false
set_option linter.unusedSimpArgs false

/-! ### api_Part_49: function 49 (its contract proved by hand) -/
open Go.Shelf
theorem run_copy_rowS {P : Program} (w : World) (dT sT ty elem : TypeId) (g o dLen dCap : Nat) (a : Addr) (sLen sCap size : Nat) (cur : Array Value) (t : TypeId) (cs : List Value)
    (hu : P.underlying dT = some (.slice elem)) (hs : (P.info? elem).map (·.size) = some size)
    (hg : w.heap[g]? = some (.cells cur t (0, 0))) (hn : cs.length = Nat.min sLen dLen * size)
    (hsrc : ∀ j v, cs[j]? = some v → w.cell? (a.add j) = some v) (hfit : o + cs.length ≤ cur.size) (h1 : ∀ v ∈ cs, v.oneCell' = true) :
    (Builtin.copy_ #[dT, sT] ty #[.slice (some ⟨g, o, none⟩) dLen dCap, .slice (some a) sLen sCap]).run P w =
      .ok (goInt (Nat.min sLen dLen)) (w.setRow g (cur.toList.take o ++ cs ++ cur.toList.drop (o + cs.length)).toArray) := by
  have hl := run_firstCells_some (P := P) w size (Nat.min sLen dLen) a sLen sCap cs hn hsrc
  have hst := run_storeCells_at P g o t cs 0 cur w hg (by simpa using hfit) h1
  cases hq : P.info? elem with
  | none => simp [hq] at hs
  | some i =>
    have hi : i.size = size := by simpa [hq] using hs
    simp [Builtin.copy_, run_underlying hu, Builtin.lenOf, sizeOf, typeInfo, hq, hi, hl, hst]
theorem heap_lt_of {w : World} {g : Nat} {o : Obj} (h : w.heap[g]? = some o) : g < w.heap.size := (Array.getElem?_eq_some_iff.1 h).1
theorem cell_row {w : World} {g t j : Nat} {cur : Array Value} {v : Value} (hg : w.heap[g]? = some (.cells cur t (0, 0))) (h : cur.toList[j]? = some v) : w.cell? ⟨g, j, none⟩ = some v := by
  simp only [World.cell?, hg]
  simpa using h
set_option maxHeartbeats 8000000 in
set_option maxRecDepth 100000 in
theorem ins_room (g cap n i b m : Nat) (hm : 0 < m) (hm1 : m ≤ 1) (cur : Array Value) (x0 x1 : Value) (w : World) (hg : w.heap[g]? = some (.cells cur 50 (0, 0))) (hcur : cur.size = cap * 2) (hin : i < n) (hroom : n + m ≤ cap) (hcap : cap ≤ 9223372036854775807)
    (hb : w.heap[b]? = some (.cells #[x0, x1] 50 (0, 0))) (hne : b ≠ g) (h0 : x0.oneCell' = true) (h1 : x1.oneCell' = true) (hone : ∀ u ∈ cur.toList.take (n * 2), u.oneCell' = true) :
    Calls Try.prog 49 #[.slice (some ⟨g, 0, none⟩) n cap, .int .i64 i, .slice (some ⟨b, 0, none⟩) m 1] w fun e w' => e = .returned (.slice (some ⟨g, 0, none⟩) (n + m) cap) ∧
      w' = w.drew.setRow g (cur.toList.take (i * 2) ++ [x0, x1] ++ (cur.toList.take (n * 2)).drop (i * 2) ++ cur.toList.drop ((n + m) * 2)).toArray := by
  have hu34 := Try.underlying34
  have hsz : (Try.prog.info? 50).map (·.size) = some 2 := by kernel_rfl
  have hz50 : ∀ w, (Go.sizeOf 50).run Try.prog w = .ok 2 w := fun w => by
    obtain ⟨i0, hi, hs⟩ := Option.map_eq_some_iff.1 hsz
    simp [Go.sizeOf, typeInfo, hi, hs]
  have hov : ∀ lb cb, (callFunc 63 #[.slice (some ⟨b, 0, none⟩) m 1, .slice (some ⟨g, (i + m) * 2, none⟩) lb cb]).run Try.prog w = .ok (.value (.bool false)) w := fun lb cb => by
    rw [run_callFunc_extern Try.func63 (by kernel_rfl) (by kernel_rfl) (by kernel_rfl) (e := Extern.SlicesOverlaps.overlaps #[34, 34] #[4]) (by kernel_rfl),
      Lib.run_overlaps_apart w 34 4 50 Try.underlying34 2 hz50 ⟨b, 0, none⟩ ⟨g, (i + m) * 2, none⟩ m 1 lb cb hne 50 50 2 (cap * 2) (by simp [World.shape?, hb]) (by simp [World.shape?, hg, hcur]) (by omega) (by simp [World.frozen?, hb]) (by simp [World.frozen?, hb])]
    rfl
  obtain ⟨mid, hmid⟩ : ∃ mid, mid = (cur.toList.take (n * 2)).drop (i * 2) := ⟨_, rfl⟩
  have hml : mid.length = (n - i) * 2 := by rw [hmid, List.length_drop, List.length_take, Array.length_toList, hcur]; omega
  have hcp1 : ∀ ty dc sc, (Builtin.copy_ #[34, 34] ty #[.slice (some ⟨g, (i + m) * 2, none⟩) (n + m - (i + m)) dc, .slice (some ⟨g, i * 2, none⟩) (n + m - i) sc]).run Try.prog w.drew =
      .ok (goInt (Nat.min (n + m - i) (n + m - (i + m)))) (w.drew.setRow g (cur.toList.take ((i + m) * 2) ++ mid ++ cur.toList.drop ((i + m) * 2 + mid.length)).toArray) := fun ty dc sc =>
    run_copy_rowS w.drew 34 34 ty 50 g ((i + m) * 2) (n + m - (i + m)) dc ⟨g, i * 2, none⟩ (n + m - i) sc 2 cur 50 mid Try.underlying34 hsz hg
      (by rw [hml]; simp only [Nat.min_def]; split <;> omega)
      (fun j v hj => by
        rw [Addr.add_lit]
        refine cell_row (t := 50) (cur := cur) hg ?_
        rw [hmid, List.getElem?_drop, List.getElem?_take] at hj
        split at hj
        · exact hj
        · cases hj)
      (by rw [hml, hcur]; omega)
      (fun v hv => hone v (by rw [hmid] at hv; exact List.mem_of_mem_drop hv))
  obtain ⟨cur1, hc1⟩ : ∃ c : Array Value, c = (cur.toList.take ((i + m) * 2) ++ mid ++ cur.toList.drop ((i + m) * 2 + mid.length)).toArray := ⟨_, rfl⟩
  rw [← hc1] at hcp1
  have hs1 : cur1.size = cap * 2 := by
    rw [hc1]
    simp [hml, hcur]
    omega
  obtain ⟨W1, hW1⟩ : ∃ W1, W1 = w.drew.setRow g cur1 := ⟨_, rfl⟩
  rw [← hW1] at hcp1
  have hg1 : W1.heap[g]? = some (.cells cur1 50 (0, 0)) := by rw [hW1]; exact setRow_heap w.drew g cur cur1 50 (0, 0) hg
  have hb1 : W1.heap[b]? = some (.cells #[x0, x1] 50 (0, 0)) := by
    rw [hW1]
    have := setRow_other w.drew g b cur1 hne
    rw [this]; exact hb
  have hcp2 : ∀ ty dc, (Builtin.copy_ #[34, 34] ty #[.slice (some ⟨g, i * 2, none⟩) (n + m - i) dc, .slice (some ⟨b, 0, none⟩) m 1]).run Try.prog W1 =
      .ok (goInt (Nat.min m (n + m - i))) (W1.setRow g (cur1.toList.take (i * 2) ++ [x0, x1] ++ cur1.toList.drop (i * 2 + [x0, x1].length)).toArray) := fun ty dc =>
    run_copy_rowS W1 34 34 ty 50 g (i * 2) (n + m - i) dc ⟨b, 0, none⟩ m 1 2 cur1 50 [x0, x1] Try.underlying34 hsz hg1
      (by simp only [Nat.min_def]; split <;> simp <;> omega)
      (fun j v hj => by
        rw [Addr.add_lit, Nat.zero_add]
        exact cell_row (t := 50) (cur := #[x0, x1]) hb1 hj)
      (by simp [hs1]; omega)
      (fun v hv => by simp at hv; rcases hv with rfl | rfl <;> assumption)
  have hfin : W1.setRow g (cur1.toList.take (i * 2) ++ [x0, x1] ++ cur1.toList.drop (i * 2 + [x0, x1].length)).toArray = w.drew.setRow g (cur.toList.take (i * 2) ++ [x0, x1] ++ mid ++ cur.toList.drop ((n + m) * 2)).toArray := by
    rw [hW1, setRow_setRow]
    congr 2
    rw [hc1]
    have e1 : (cur.toList.take ((i + m) * 2) ++ mid ++ cur.toList.drop ((i + m) * 2 + mid.length)).take (i * 2) = cur.toList.take (i * 2) := by
      rw [List.append_assoc, List.take_append_of_le_length (by rw [List.length_take, Array.length_toList, hcur]; omega), List.take_take]
      congr 1; omega
    have e2 : (cur.toList.take ((i + m) * 2) ++ mid ++ cur.toList.drop ((i + m) * 2 + mid.length)).drop (i * 2 + 2) = mid ++ cur.toList.drop ((n + m) * 2) := by
      rw [List.append_assoc, show i * 2 + 2 = (cur.toList.take ((i + m) * 2)).length by rw [List.length_take, Array.length_toList, hcur]; omega, List.drop_left]
      congr 2; rw [hml]; omega
    simp only [List.length_cons, List.length_nil]
    rw [e1, e2, List.append_assoc]
    simp
  rw [← hmid, ← hfin]
  have hz2 : ¬ ((i : Int) = (n : Int)) := by omega
  have hr1 : ¬ ((cap : Int) < (n : Int) + (m : Int)) := by omega
  have hz1 : ¬ ((m : Int) = 0) := by omega
  have mixed : Try.prog.follows Departure.mixedOrders = true := by kernel_rfl
  have hw1 : IntKind.i64.wrap ((i : Int) + (m : Int)) = (i : Int) + (m : Int) := by rw [IntKind.wrap_i64]; omega
  have hnn : (0 : Int) ≤ (i : Int) + (m : Int) := by omega
  have htn : ((i : Int) + (m : Int)).toNat = i + m := by omega
  have hb3 : ¬ (cap = i + m) := by omega
  have hb2 : (i : Int) ≤ (n : Int) + (m : Int) := by omega
  have hb4 : ¬ (cap = i) := by omega
  have hii : i ≤ n := by omega
  clear hW1 hfin hone hcur hs1 hg1 hb1 hg hb hmid hml hc1
  go_enter Try.func49, Try.ntmps49
  go_wp2_with (simp only [hov])
  go_region_law_o (refine step_copy_runI rfl _ _ 34 34 rfl _ _ (by simp [Act.eval, Act.put]) (by simp [Act.eval, Act.put]) (hcp1 _ _ _) ?_)
  go_wp2_with (at_builtin; refine wpList_copy_runI _ rfl _ _ 34 34 rfl _ _ rfl rfl (hcp2 _ _) ?_)
  go_ret
  exact ⟨rfl, by simp⟩
set_option maxHeartbeats 8000000 in
set_option maxRecDepth 100000 in
theorem ins_grow (g cap n i b m : Nat) (hm : 0 < m) (hm1 : m ≤ 1) (cur : Array Value) (x0 x1 : Value) (w : World) (hg : w.heap[g]? = some (.cells cur 50 (0, 0))) (hcur : cur.size = cap * 2) (hin : i < n) (hnc : n ≤ cap) (hroom : cap < n + m) (hbig : n < 4000000000000)
    (hb : w.heap[b]? = some (.cells #[x0, x1] 50 (0, 0))) (h0 : x0.oneCell' = true) (h1 : x1.oneCell' = true) (hone : ∀ u ∈ cur.toList.take (n * 2), u.oneCell' = true) :
    Calls Try.prog 49 #[.slice (some ⟨g, 0, none⟩) n cap, .int .i64 i, .slice (some ⟨b, 0, none⟩) m 1] w fun e w' => ∃ (G : Nat) (ROW : Array Value), e = .returned (.slice (some ⟨w.heap.size, 0, none⟩) (n + m) G) ∧ n + m ≤ G ∧ G ≤ 9223372036854775807 ∧ ROW.size = G * 2 ∧
      ROW.toList.take ((n + m) * 2) = cur.toList.take (i * 2) ++ [x0, x1] ++ (cur.toList.take (n * 2)).drop (i * 2) ∧ w'.heap[w.heap.size]? = some (.cells ROW 50 (0, 0)) ∧ (∀ k, k < w.heap.size → w'.heap[k]? = w.heap[k]?) ∧ w.heap.size ≤ w'.heap.size ∧ w'.os = w.os ∧ w'.tape = w.tape ∧ w'.output = w.output := by
  have hu34 := Try.underlying34
  have hu3 := Try.underlying3
  obtain ⟨i0, hi0, hzz⟩ := Option.map_eq_some_iff.1 info50
  simp only [Prod.mk.injEq] at hzz
  obtain ⟨hz0, hzs, hzb⟩ := hzz
  have hsz : (Try.prog.info? 50).map (·.size) = some 2 := by rw [hi0]; simp [hzs]
  have hbw : b < w.heap.size := heap_lt_of hb
  have hgw : g < w.heap.size := heap_lt_of hg
  have hik : i + (n + m - i) = n + m := by omega
  have hkk : (n : Int) + (m : Int) - (i : Int) = ((n + m - i : Nat) : Int) := by omega
  have hold : (Builtin.firstCells i0.size i (.slice (some ⟨g, 0, none⟩) i cap)).run Try.prog w.drew = .ok (cur.toList.take (i * 2)).toArray w.drew := by
    rw [hzs]
    refine run_firstCells_some w.drew 2 i ⟨g, 0, none⟩ i cap (cur.toList.take (i * 2)) (by rw [List.length_take, Array.length_toList, hcur]; omega) (fun j v hj => ?_)
    rw [Addr.add_lit, Nat.zero_add]
    refine cell_row (t := 50) (cur := cur) hg ?_
    rw [List.getElem?_take] at hj
    split at hj
    · exact hj
    · cases hj
  obtain ⟨G, hG⟩ : ∃ G, G = grownCap w (n + m) cap 50 := ⟨_, rfl⟩
  obtain ⟨Z, hZ⟩ : ∃ Z : Array Value, Z = (Value.agg #[(.int .i64 0), (.slice none 0 0)]).cells := ⟨_, rfl⟩
  obtain ⟨ROW, hROW⟩ : ∃ ROW : Array Value, ROW = (cur.toList.take (i * 2)).toArray ++ Builtin.zeroCells Z (n + m - i) ++ Builtin.zeroCells Z (G - (n + m)) := ⟨_, rfl⟩
  have hrz : ∀ ty, (Builtin.append_ #[34, 3] ty #[.slice (some ⟨g, 0, none⟩) i cap, .int .i64 ((n : Int) + (m : Int) - (i : Int))]).run Try.prog w =
      .ok (.slice (some ⟨w.heap.size, 0, none⟩) (n + m) G) (w.drew.alloc (.cells ROW 50)) := fun ty => by
    have h := Lib.run_append_grow_zeros w 34 3 ty 50 i0 _ .i64 .i64 Try.underlying34 Try.underlying3 hi0 hz0 (some ⟨g, 0, none⟩) i cap _ hold (n + m - i) (by omega) (by omega) (by omega) (by omega) (by rw [hzb]; omega) (by rw [hzb, hik]; exact growslice_fits hroom (by omega))
    rw [hik] at h
    rw [hkk, hROW, hG, hZ]
    exact h
  have hGn : n + m ≤ G := by rw [hG]; exact grownCap_ge w _ _ _
  have hG63 : G ≤ 9223372036854775807 := by
    have := grownCap_le_maxLen w (n + m) cap 50 (by unfold maxLen; omega)
    rw [← hG] at this
    unfold maxLen at this
    omega
  have hRs : ROW.size = G * 2 := by
    rw [hROW, hZ]
    simp [Builtin.zeroCells, Value.cells, hcur]
    omega
  have hRt : ROW.toList.take (i * 2) = cur.toList.take (i * 2) := by
    rw [hROW]
    have hl : (cur.toList.take (i * 2)).length = i * 2 := by rw [List.length_take, Array.length_toList, hcur]; omega
    simp only [Array.toList_append, List.append_assoc]
    rw [List.take_append_of_le_length (by omega), List.take_of_length_le (by omega)]
  obtain ⟨mid, hmid⟩ : ∃ mid, mid = (cur.toList.take (n * 2)).drop (i * 2) := ⟨_, rfl⟩
  have hml : mid.length = (n - i) * 2 := by rw [hmid, List.length_drop, List.length_take, Array.length_toList, hcur]; omega
  obtain ⟨R1, hR1⟩ : ∃ R1 : Array Value, R1 = (ROW.toList.take (i * 2) ++ [x0, x1] ++ ROW.toList.drop (i * 2 + [x0, x1].length)).toArray := ⟨_, rfl⟩
  have hR1s : R1.size = G * 2 := by
    rw [hR1]
    simp [hRs]
    omega
  obtain ⟨R2, hR2⟩ : ∃ R2 : Array Value, R2 = (R1.toList.take ((i + m) * 2) ++ mid ++ R1.toList.drop ((i + m) * 2 + mid.length)).toArray := ⟨_, rfl⟩
  have hR2s : R2.size = G * 2 := by
    rw [hR2]
    simp [hR1s, hml]
    omega
  have hR2t : R2.toList.take ((n + m) * 2) = cur.toList.take (i * 2) ++ [x0, x1] ++ mid := by
    have e1 : R1.toList.take ((i + m) * 2) = cur.toList.take (i * 2) ++ [x0, x1] := by
      rw [hR1, ← hRt]
      have hl : (ROW.toList.take (i * 2) ++ [x0, x1]).length = (i + m) * 2 := by
        rw [List.length_append, List.length_take, Array.length_toList, hRs]
        simp
        omega
      rw [List.take_append_of_le_length (by omega), List.take_of_length_le (by omega)]
    rw [hR2, e1]
    have hl : (cur.toList.take (i * 2) ++ [x0, x1] ++ mid).length = (n + m) * 2 := by
      rw [List.length_append, List.length_append, List.length_take, Array.length_toList, hcur, hml]
      simp
      omega
    rw [List.take_append_of_le_length (by omega), List.take_of_length_le (by omega)]
  have hcpA : ∀ (W : World), W.heap[w.heap.size]? = some (.cells ROW 50 (0, 0)) → W.heap[b]? = some (.cells #[x0, x1] 50 (0, 0)) → ∀ ty dc, (Builtin.copy_ #[34, 34] ty #[.slice (some ⟨w.heap.size, i * 2, none⟩) (n + m - i) dc, .slice (some ⟨b, 0, none⟩) m 1]).run Try.prog W = .ok (goInt (Nat.min m (n + m - i))) (W.setRow w.heap.size R1) := fun W h1' h2' ty dc => by
    rw [hR1]
    exact run_copy_rowS W 34 34 ty 50 w.heap.size (i * 2) (n + m - i) dc ⟨b, 0, none⟩ m 1 2 ROW 50 [x0, x1] Try.underlying34 hsz h1'
      (by simp only [Nat.min_def]; split <;> simp <;> omega)
      (fun j v hj => by
        rw [Addr.add_lit, Nat.zero_add]
        exact cell_row (t := 50) (cur := #[x0, x1]) h2' hj)
      (by simp [hRs]; omega)
      (fun v hv => by simp at hv; rcases hv with rfl | rfl <;> assumption)
  have hcpB : ∀ (W : World), W.heap[w.heap.size]? = some (.cells R1 50 (0, 0)) → W.heap[g]? = some (.cells cur 50 (0, 0)) → ∀ ty dc sc, (Builtin.copy_ #[34, 34] ty #[.slice (some ⟨w.heap.size, (i + m) * 2, none⟩) (n + m - (i + m)) dc, .slice (some ⟨g, i * 2, none⟩) (n - i) sc]).run Try.prog W = .ok (goInt (Nat.min (n - i) (n + m - (i + m)))) (W.setRow w.heap.size R2) := fun W h1' h2' ty dc sc => by
    rw [hR2]
    exact run_copy_rowS W 34 34 ty 50 w.heap.size ((i + m) * 2) (n + m - (i + m)) dc ⟨g, i * 2, none⟩ (n - i) sc 2 R1 50 mid Try.underlying34 hsz h1'
      (by rw [hml]; simp only [Nat.min_def]; split <;> omega)
      (fun j v hj => by
        rw [Addr.add_lit]
        refine cell_row (t := 50) (cur := cur) h2' ?_
        rw [hmid, List.getElem?_drop, List.getElem?_take] at hj
        split at hj
        · exact hj
        · cases hj)
      (by rw [hml, hR1s]; omega)
      (fun v hv => hone v (by rw [hmid] at hv; exact List.mem_of_mem_drop hv))
  have hA1 : (w.alloc (.cells ROW 50)).drew.heap[w.heap.size]? = some (.cells ROW 50 (0, 0)) := heap_alloc_new w _
  have hA2 : ∀ k, k < w.heap.size → (w.alloc (.cells ROW 50)).drew.heap[k]? = w.heap[k]? := fun k hk => (Below.heap_alloc w _ k hk)
  have hA3 : (w.alloc (.cells ROW 50)).drew.heap[b]? = some (.cells #[x0, x1] 50 (0, 0)) := (hA2 b hbw).trans hb
  have hB1 : ((w.alloc (.cells ROW 50)).drew.setRow w.heap.size R1).heap[w.heap.size]? = some (.cells R1 50 (0, 0)) := setRow_heap _ _ ROW R1 50 (0, 0) hA1
  have hB2 : ∀ k, k < w.heap.size → ((w.alloc (.cells ROW 50)).drew.setRow w.heap.size R1).heap[k]? = w.heap[k]? := fun k hk => (setRow_other _ _ k R1 (by omega)).trans (hA2 k hk)
  have hB3 : ((w.alloc (.cells ROW 50)).drew.setRow w.heap.size R1).heap[g]? = some (.cells cur 50 (0, 0)) := (hB2 g hgw).trans hg
  have hC1 : (((w.alloc (.cells ROW 50)).drew.setRow w.heap.size R1).setRow w.heap.size R2).heap[w.heap.size]? = some (.cells R2 50 (0, 0)) := setRow_heap _ _ R1 R2 50 (0, 0) hB1
  have hC2 : ∀ k, k < w.heap.size → (((w.alloc (.cells ROW 50)).drew.setRow w.heap.size R1).setRow w.heap.size R2).heap[k]? = w.heap[k]? := fun k hk => (setRow_other _ _ k R2 (by omega)).trans (hB2 k hk)
  have hC3 : w.heap.size ≤ (((w.alloc (.cells ROW 50)).drew.setRow w.heap.size R1).setRow w.heap.size R2).heap.size := by
    rw [setRow_size, setRow_size]
    simp
  rw [← hmid]
  have hO1 : (((w.alloc (.cells ROW 50)).drew.setRow w.heap.size R1).setRow w.heap.size R2).os = w.os := rfl
  have hO2 : (((w.alloc (.cells ROW 50)).drew.setRow w.heap.size R1).setRow w.heap.size R2).tape = w.tape := rfl
  have hO3 : (((w.alloc (.cells ROW 50)).drew.setRow w.heap.size R1).setRow w.heap.size R2).output = w.output := rfl
  have FIN := Aside0.mk (And.intro hGn (And.intro hG63 (And.intro hR2s (And.intro hR2t (And.intro hC1 (And.intro hC2 (And.intro hC3 (And.intro hO1 (And.intro hO2 hO3)))))))))
  have HZ := Aside0.mk (And.intro hA1 (And.intro hA3 (And.intro hB1 hB3)))
  have hz2 : ¬ ((i : Int) = (n : Int)) := by omega
  have hr1 : (cap : Int) < (n : Int) + (m : Int) := by omega
  have hz1 : ¬ ((m : Int) = 0) := by omega
  have mixed : Try.prog.follows Departure.mixedOrders = true := by kernel_rfl
  have hw1 : IntKind.i64.wrap ((i : Int) + (m : Int)) = (i : Int) + (m : Int) := by rw [IntKind.wrap_i64]; omega
  have hnn : (0 : Int) ≤ (i : Int) + (m : Int) := by omega
  have htn : ((i : Int) + (m : Int)).toNat = i + m := by omega
  have hb2 : (i : Int) ≤ (n : Int) + (m : Int) := by omega
  have hb5 : (i : Int) ≤ (n : Int) := by omega
  have hb4 : ¬ (cap = i) := by omega
  have hb6 : ¬ (G = i) := by omega
  have hb7 : ¬ (G = i + m) := by omega
  have hii : i ≤ n := by omega
  clear hO1 hO2 hO3 hkk hik hold hROW hG hZ hRs hRt hR1 hR1s hR2 hR2s hR2t hmid hml hA1 hA2 hA3 hB1 hB2 hB3 hC1 hC2 hC3 hg hb hone hcur hi0 hz0 hzs hzb hbw hgw hGn hsz
  go_enter Try.func49, Try.ntmps49
  go_wp2_with (at_builtin; refine Lib.wpList_append_run _ rfl _ _ _ _ rfl _ _ rfl rfl _ _ (hrz _) ?_)
  have hcpA1 := hcpA _ HZ.out.1 HZ.out.2.1
  have hcpB1 := hcpB (((w.alloc (.cells ROW 50)).drew.setRow w.heap.size R1).drew) HZ.out.2.2.1 HZ.out.2.2.2
  clear hcpA hcpB
  simp only [hcpA1]
  go_wp2
  go_region_law_o (refine step_copy_runI rfl _ _ 34 34 rfl (.slice (some ⟨w.heap.size, (i + m) * 2, none⟩) (n + m - (i + m)) (G - (i + m))) (.slice (some ⟨g, i * 2, none⟩) (n - i) (cap - i)) (by simp [Act.eval, Act.put]) (by simp [Act.eval, Act.put]) (hcpB1 3 (G - (i + m)) (cap - i)) ?_)
  go_wp2
  go_ret
  exact ⟨G, R2, rfl, FIN.out⟩
theorem reps_one {rows : List (List Value)} {inner : List Value} (h : Reps (fun x cs => cs = x ∧ cs.length = 2 ∧ ∀ u ∈ cs, u.oneCell' = true) 2 rows inner) : ∀ u ∈ inner, u.oneCell' = true := by
  intro u hu
  obtain ⟨k, hk, rfl⟩ := List.getElem_of_mem hu
  have hl := h.1
  have hj : k / 2 < rows.length := by omega
  have hM := (h.2 (k / 2) _ (List.getElem?_eq_getElem hj)).2.2
  refine hM _ ?_
  have hk2 : k / 2 * 2 + k % 2 = k := by omega
  have : ((inner.drop (k / 2 * 2)).take 2)[k % 2]? = some inner[k] := by
    rw [List.getElem?_take, if_pos (by omega), List.getElem?_drop, hk2, List.getElem?_eq_getElem hk]
  exact List.mem_of_getElem? this
set_option maxHeartbeats 8000000 in
set_option maxRecDepth 100000 in
theorem ins_raw (base i b : Nat) (v x0 x1 : Value) (rows : List (List Value)) (w : World) (HR : (Kd.raw 2).R 50 w base (fun _ => True) v rows) (hi : i ≤ rows.length) (hbig : rows.length < 4000000000000) (hbase : base ≤ w.heap.size)
    (hb : w.heap[b]? = some (.cells #[x0, x1] 50 (0, 0))) (hne : some b ≠ v.ownBlock) (h0 : x0.oneCell' = true) (h1 : x1.oneCell' = true) :
    Calls Try.prog 49 #[v, .int .i64 i, .slice (some ⟨b, 0, none⟩) 1 1] w fun e w' => ∃ v', e = .returned v' ∧ (Kd.raw 2).R 50 w' base (fun _ => True) v' (rows.take i ++ [x0, x1] :: rows.drop i) ∧ Kept w w' (fun k => some k = v.ownBlock) ∧
      (v'.ownBlock = v.ownBlock ∨ ∃ b', v'.ownBlock = some b' ∧ w.heap.size ≤ b') ∧ Below base w w' := by
  have hu34 := Try.underlying34
  have hone2 : ∀ u ∈ [x0, x1], u.oneCell' = true := fun u hu => by simp at hu; rcases hu with rfl | rfl <;> assumption
  by_cases hin : i < rows.length
  · obtain ⟨_, inner, ho, hr⟩ := HR
    have hr0 : Reps (fun x cs => cs = x ∧ cs.length = 2 ∧ ∀ u ∈ cs, u.oneCell' = true) 2 rows inner := hr
    have hone := reps_one hr0
    rcases ho.2 with ⟨_, hn⟩ | ⟨g, cap, cur, rfl, hg, hh, hnc, hcm, hcs, hct⟩
    · omega
    · have hcs' : cur.size = cap * 2 := hcs
      have hct' : cur.toList.take (rows.length * 2) = inner := hct
      have hne' : b ≠ g := fun e => hne (by rw [e]; rfl)
      have hone' : ∀ u ∈ cur.toList.take (rows.length * 2), u.oneCell' = true := by rw [hct']; exact hone
      have htk : cur.toList.take (i * 2) = inner.take (i * 2) := by rw [← hct', List.take_take]; congr 1; omega
      have hrows : Reps (fun x cs => cs = x ∧ cs.length = 2 ∧ ∀ u ∈ cs, u.oneCell' = true) 2 (rows.take i ++ [x0, x1] :: rows.drop i) (inner.take (i * 2) ++ [x0, x1] ++ inner.drop (i * 2)) := by
        have e : rows.take i ++ [x0, x1] :: rows.drop i = (rows.take i ++ [[x0, x1]]) ++ rows.drop i := by simp
        rw [e]
        refine Kd.reps_append (Kd.reps_append (Kd.reps_take hr0 (by omega)) ?_) (Kd.reps_drop hr0)
        simpa using Reps.snoc (Reps.none (fun x cs => cs = x ∧ cs.length = 2 ∧ ∀ u ∈ cs, u.oneCell' = true) 2) (p := [x0, x1]) (c := [x0, x1]) ⟨rfl, rfl, hone2⟩ rfl
      have hlen : (rows.take i ++ [x0, x1] :: rows.drop i).length = rows.length + 1 := by
        rw [List.length_append, List.length_cons, List.length_take, List.length_drop]; omega
      by_cases hroom : rows.length + 1 ≤ cap
      · refine (ins_room g cap rows.length i b 1 (by omega) (by omega) cur x0 x1 w hh hcs' hin hroom (by unfold maxLen at hcm; omega) hb hne' h0 h1 hone').mono ?_
        rintro e w' ⟨rfl, rfl⟩
        have hh' : w.drew.heap[g]? = some (.cells cur 50 (0, 0)) := hh
        refine ⟨_, rfl, ⟨fun _ _ => trivial, _, ⟨?_, .inr ⟨g, cap, _, by rw [hlen], hg, setRow_heap w.drew g cur _ 50 (0, 0) hh', by rw [hlen]; exact hroom, hcm, ?_, ?_⟩⟩, hrows⟩, ⟨by rw [setRow_size]; exact Nat.le_refl _, fun k hk hn => setRow_other w.drew g k _ (fun e => hn (by rw [e]; rfl))⟩, .inl rfl, ⟨rfl, rfl, rfl, by rw [setRow_size]; exact Nat.le_refl _, fun k hk => setRow_other w.drew g k _ (by omega)⟩⟩
        · exact hrows.1
        · show _ = cap * 2
          simp [hcs']
          omega
        · rw [hct', htk, hlen]
          show List.take ((rows.length + 1) * 2) _ = _
          have hl : (inner.take (i * 2) ++ [x0, x1] ++ inner.drop (i * 2)).length = (rows.length + 1) * 2 := by rw [hrows.1, hlen]
          rw [List.take_append_of_le_length (by omega), List.take_of_length_le (by omega)]
      · refine (ins_grow g cap rows.length i b 1 (by omega) (by omega) cur x0 x1 w hh hcs' hin hnc (by omega) hbig hb h0 h1 hone').mono ?_
        rintro e w' ⟨G, ROW, rfl, hG, hG63, hRs, hRt, hH, hK, hS, hO1, hO2, hO3⟩
        refine ⟨_, rfl, ⟨fun _ _ => trivial, _, ⟨?_, .inr ⟨w.heap.size, G, ROW, by rw [hlen], hbase, hH, by rw [hlen]; exact hG, by unfold maxLen; omega, hRs, ?_⟩⟩, hrows⟩, ⟨hS, fun k hk _ => hK k hk⟩, .inr ⟨_, rfl, Nat.le_refl _⟩, ⟨hO1, hO2, hO3, hS, fun k hk => hK k (by omega)⟩⟩
        · exact hrows.1
        · rw [hlen]
          show List.take ((rows.length + 1) * 2) ROW.toList = _
          rw [hRt, htk, hct']
  · obtain rfl : i = rows.length := by omega
    have hRR : ReadsRow ((Kd.raw 2).K w) 2 w (some ⟨b, 0, none⟩) 1 [[x0, x1]] := by
      refine ⟨rfl, by omega, fun _ => ⟨⟨b, 0, none⟩, rfl, fun j p hj => ?_⟩⟩
      have hj0 : j = 0 := by
        have := (List.getElem?_eq_some_iff.1 hj).1
        simp at this
        exact this
      subst hj0
      have hp : [x0, x1] = p := by simpa using hj
      subst hp
      refine ⟨[x0, x1], rfl, ⟨rfl, rfl, hone2⟩, fun k u hk => ?_⟩
      rw [Addr.add_lit, Nat.zero_mul, Nat.zero_add, Nat.zero_add]
      exact cell_row (t := 50) (cur := #[x0, x1]) hb hk
    have ht : ∀ z : List (List Value), z.take z.length ++ [x0, x1] :: z.drop z.length = z ++ [[x0, x1]] := fun z => by rw [List.take_length, List.drop_length]
    rw [ht]
    obtain ⟨A, c, rfl⟩ := Kd.R_slice HR
    have hnc := (Kd.R_reads' HR).2.1
    have HRa := Aside0.mk HR
    have HRb := Aside0.mk hRR
    clear HR hRR hb ht hin hi hone2 h0 h1 hne
    cases A with
    | none =>
      go_enter Try.func49, Try.ntmps49
      go_wp2_with (at_builtin; refine Kd.R_append_rows (Kd.raw 2) (w0 := w) base rfl (.tmp 23) (.tmp 24) 34 50 (.agg #[(.int .i64 0), (.slice none 0 0)]) 32 rfl Try.underlying34 info50 rfl (by decide) (by omega) _ rows [[x0, x1]] _ _ _ (fun _ => True) (fun _ => False) rfl rfl HRa.out HRb.out (fun _ _ h => h) (fun _ h => h.elim) (fun _ _ => trivial) (Below.refl _ _) hbase (by omega) ?_; intro v1 w1 ho hb' hg hat; have FIN := Aside0.mk (And.intro ho (And.intro (Kept.of_grown (S := fun k => some k = (Value.slice none rows.length c).ownBlock) hg (Kept.refl w _) (fun k hk => .inl hk.symm)) (And.intro hat hb'))); clear ho hb' hg hat)
      go_ret
      exact ⟨v1, rfl, FIN.out⟩
    | some ad =>
      go_enter Try.func49, Try.ntmps49
      go_wp2_with (at_builtin; refine Kd.R_append_rows (Kd.raw 2) (w0 := w) base rfl (.tmp 23) (.tmp 24) 34 50 (.agg #[(.int .i64 0), (.slice none 0 0)]) 32 rfl Try.underlying34 info50 rfl (by decide) (by omega) _ rows [[x0, x1]] _ _ _ (fun _ => True) (fun _ => False) rfl rfl HRa.out HRb.out (fun _ _ h => h) (fun _ h => h.elim) (fun _ _ => trivial) (Below.refl _ _) hbase (by omega) ?_; intro v1 w1 ho hb' hg hat; have FIN := Aside0.mk (And.intro ho (And.intro (Kept.of_grown (S := fun k => some k = (Value.slice (some ad) rows.length c).ownBlock) hg (Kept.refl w _) (fun k hk => .inl hk.symm)) (And.intro hat hb'))); clear ho hb' hg hat)
      all_goals (go_ret; exact ⟨v1, rfl, FIN.out⟩)
theorem ins_N {ok okp : Nat → Prop} (base i b : Nat) (v x0 x1 : Value) (l : List S50) (x : S50) (w : World) (HO : Kd.N k50 50 w base ok v l) (hi : i ≤ l.length) (hbig : l.length < 4000000000000) (hbase : base ≤ w.heap.size)
    (hb : w.heap[b]? = some (.cells #[x0, x1] 50 (0, 0))) (hne : some b ≠ v.ownBlock) (hM : Kd.FK k50 w okp x [x0, x1]) (hokp : ∀ k, okp k → ok k ∧ some k ≠ v.ownBlock) (hfresh : ∀ k, w.heap.size ≤ k → ok k) :
    Calls Try.prog 49 #[v, .int .i64 i, .slice (some ⟨b, 0, none⟩) 1 1] w fun e w' => ∃ v', e = .returned v' ∧ Kd.N k50 50 w' base ok v' (l.take i ++ x :: l.drop i) ∧ Kept w w' (fun k => some k = v.ownBlock) ∧
      (v'.ownBlock = v.ownBlock ∨ ∃ b', v'.ownBlock = some b' ∧ w.heap.size ≤ b') ∧ Below base w w' := by
  obtain ⟨h0', rows, hl, hR, hf⟩ := HO
  have hone := k50.K_one (Kd.FK_now hM)
  refine (ins_raw base i b v x0 x1 rows w (Kd.raw_any hR) (by omega) (by omega) hbase hb hne (hone _ (by simp)) (hone _ (by simp))).mono ?_
  rintro e w' ⟨v', rfl, hR', hK, hat, hbl⟩
  have hne' : ∀ k, some k ≠ v.ownBlock → k < w.heap.size → some k ≠ v'.ownBlock := by
    intro k hk hlt
    rcases hat with hat | ⟨b, hb, hle⟩
    · rw [hat]; exact hk
    · rw [hb]
      intro he
      injection he with he
      omega
  have step : ∀ {x : S50} {c : List Value} {o : Nat → Prop}, Kd.FK k50 w o x c → (∀ k, o k → ok k ∧ some k ≠ v.ownBlock) → Kd.FK k50 w' (fun k => ok k ∧ some k ≠ v'.ownBlock) x c := by
    intro x c o hq ho
    exact Kd.FK_mono (Kd.FK_step (Kd.FK_bound hq) (fun k hk hlt => hK.2 k hlt (fun e => (ho k hk.1).2 e))) (fun k hk => ⟨(ho k hk.1).1, hne' k (ho k hk.1).2 hk.2⟩)
  refine ⟨v', rfl, ⟨fun k hk => ?_, rows.take i ++ [x0, x1] :: rows.drop i, ?_, Kd.raw_tight hR', fun j y c hy hc => ?_⟩, hK, hat, hbl⟩
  · rcases hat with hat | ⟨b, hb, hle⟩
    · exact h0' k (hat ▸ hk)
    · rw [hb] at hk
      injection hk with hk
      exact hfresh k (by omega)
  · simp only [List.length_append, List.length_cons, List.length_take, List.length_drop]
    omega
  · have l1 : (l.take i).length = i := by rw [List.length_take]; omega
    have l2 : (rows.take i).length = i := by rw [List.length_take]; omega
    rcases Nat.lt_trichotomy j i with h | h | h
    · rw [List.getElem?_append_left (by omega), List.getElem?_take, if_pos h] at hy hc
      exact step (hf j y c hy hc) (fun _ hk => hk)
    · subst h
      rw [List.getElem?_append_right (by omega)] at hy hc
      rw [l1, Nat.sub_self] at hy
      rw [l2, Nat.sub_self] at hc
      simp only [List.getElem?_cons_zero, Option.some.injEq] at hy hc
      rw [← hy, ← hc]
      exact step hM hokp
    · obtain ⟨q, rfl⟩ : ∃ q, j = i + 1 + q := ⟨j - (i + 1), by omega⟩
      rw [List.getElem?_append_right (by omega)] at hy hc
      rw [l1, show i + 1 + q - i = q + 1 by omega, List.getElem?_cons_succ, List.getElem?_drop] at hy
      rw [l2, show i + 1 + q - i = q + 1 by omega, List.getElem?_cons_succ, List.getElem?_drop] at hc
      exact step (hf _ y c hy hc) (fun _ hk => hk)


/-! ### upload_Put: function 27 (its contract proved by hand) -/
theorem upload_at.b_range : ∀ (k : Nat) (l : List S50) (n i j r1 : Int) (r2 : Bool), upload_at.b k l n i j = some (r1, r2) → 0 ≤ i → i ≤ j → j ≤ l.length → 0 ≤ r1 ∧ r1 ≤ l.length ∧ (r2 = true → r1 < l.length)
  | 0, _, _, _, _, _, _, h, _, _, _ => by simp [upload_at.b] at h
  | k + 1, l, n, i, j, r1, r2, h, h0, hij, hj => by
    rw [upload_at.b] at h
    split at h
    · split at h
      · exact b_range k l n _ _ r1 r2 h (by omega) (by omega) hj
      · exact b_range k l n _ _ r1 r2 h h0 (by omega) (by omega)
    · obtain ⟨rfl, rfl⟩ := Prod.mk.inj (Option.some.inj h)
      refine ⟨h0, by omega, fun h => ?_⟩
      simp only [Bool.and_eq_true, decide_eq_true_eq] at h
      exact h.1
def upload_Put.lim (l : List S50) : Bool := decide (l.length < 3000000000000) && l.all fun x => decide (x.f1.length < 3000000000000)
def upload_Put.f (k : Nat) (a0_0 : ByteArray) (a0_1 : ByteArray) (a0_2 : Int) (a0_3 : Int) (l0_4 : List (S50)) (a1 : Int) (l2 : List Int) : Option (ByteArray × ByteArray × Int × Int × (List (S50)) × Int) :=
  if a1 < 1 then some ((⟨#[]⟩ : ByteArray), (⟨#[]⟩ : ByteArray), 0, 0, ([] : List (S50)), 42) else if a1 > 4 then some ((⟨#[]⟩ : ByteArray), (⟨#[]⟩ : ByteArray), 0, 0, ([] : List (S50)), 42) else if (l2.length : Int) > 1536 then some ((⟨#[]⟩ : ByteArray), (⟨#[]⟩ : ByteArray), 0, 0, ([] : List (S50)), 3) else
  if upload_Put.lim l0_4 = true then (upload_at.f k a0_0 a0_1 a0_2 a0_3 l0_4 a1).bind fun b => some (a0_0, a0_1, a0_2, a0_3, if b.2 = true then l0_4.set b.1.toNat ⟨a1, l2⟩ else l0_4.take b.1.toNat ++ ⟨a1, l2⟩ :: l0_4.drop b.1.toNat, 0) else none
theorem upload_Put.mono : ∀ a0 a1 a2 a3 a4 a5 a6 k, LeO (upload_Put.f k a0 a1 a2 a3 a4 a5 a6) (upload_Put.f (k + 1) a0 a1 a2 a3 a4 a5 a6) := by
  intro a0 a1 a2 a3 a4 a5 a6 k
  unfold upload_Put.f
  refine LeO.ite (LeO.refl _) (LeO.ite (LeO.refl _) (LeO.ite (LeO.refl _) (LeO.ite (LeO.bind (upload_at.mono _ _ _ _ _ _ _) (fun _ => LeO.refl _)) (LeO.refl _))))
/-- What holds in Put, when the part is made. -/
structure PuB (w : World) (P : Nat → Prop) (g1 g2 : Nat) (a0 a1 : ByteArray) (a2 a3 : Int) (A : Option Addr) (c : Nat) (l : List S50) (g8 : Nat) (x : Int) (A8 : Option Addr) (c8 : Nat) (l2 : List Int) (W : World) : Prop where
  st : CpSt w P g1 g2 a0 a1 a2 a3 A c l W
  b8 : W.heap[g8]? = some (.cells #[.int .i64 x, .slice A8 l2.length c8] 50 (0, 0))
  f : Kd.F (Kd.int .u8) W (fun k => w.heap.size ≤ k ∧ k ≠ g1 ∧ k ≠ g2 ∧ some k ≠ (Value.slice A l.length c).ownBlock) A8 l2.length l2
  ne : some g8 ≠ (Value.slice A l.length c).ownBlock
  le : l2.length ≤ c8
theorem PuB.below {w W W' : World} {P : Nat → Prop} {g1 g2 g8 : Nat} {a0 a1 : ByteArray} {a2 a3 x : Int} {A A8 : Option Addr} {c c8 : Nat} {l : List S50} {l2 : List Int} (h : PuB w P g1 g2 a0 a1 a2 a3 A c l g8 x A8 c8 l2 W) (hb : Below W.heap.size W W') : PuB w P g1 g2 a0 a1 a2 a3 A c l g8 x A8 c8 l2 W' :=
  ⟨h.st.below hb, blk_below h.b8 hb, Kd.F_below h.f hb, h.ne, h.le⟩
/-- Five cells written. -/
def put5 (W : World) (g : Nat) (y0 y1 y2 y3 y4 : Value) : World := ((((W.setCell ⟨g, 0, none⟩ y0).setCell ⟨g, 1, none⟩ y1).setCell ⟨g, 2, none⟩ y2).setCell ⟨g, 3, none⟩ y3).setCell ⟨g, 4, none⟩ y4
theorem put5_blk {W : World} {g t : Nat} {x0 x1 x2 x3 x4 : Value} (h : W.heap[g]? = some (.cells #[x0, x1, x2, x3, x4] t (0, 0))) (y0 y1 y2 y3 y4 : Value) : (put5 W g y0 y1 y2 y3 y4).heap[g]? = some (.cells #[y0, y1, y2, y3, y4] t (0, 0)) :=
  blk_put (blk_put (blk_put (blk_put (blk_put h 0 _ rfl) 1 _ rfl) 2 _ rfl) 3 _ rfl) 4 _ rfl
theorem put5_far {W : World} {g k : Nat} {y0 y1 y2 y3 y4 : Value} (h : k ≠ g) : (put5 W g y0 y1 y2 y3 y4).heap[k]? = W.heap[k]? := by
  unfold put5
  rw [Below.heap_setCell _ _ _ k h, Below.heap_setCell _ _ _ k h, Below.heap_setCell _ _ _ k h, Below.heap_setCell _ _ _ k h, Below.heap_setCell _ _ _ k h]
theorem put5_below {n : Nat} {w W : World} {g : Nat} {y0 y1 y2 y3 y4 : Value} (h : Below n w W) (hg : n ≤ g) : Below n w (put5 W g y0 y1 y2 y3 y4) :=
  ((((h.setCell (p := ⟨g, 0, none⟩) hg _).setCell (p := ⟨g, 1, none⟩) hg _).setCell (p := ⟨g, 2, none⟩) hg _).setCell (p := ⟨g, 3, none⟩) hg _).setCell (p := ⟨g, 4, none⟩) hg _
set_option maxHeartbeats 8000000 in
set_option maxRecDepth 100000 in
theorem upload_Put.calls (k : Nat) (a0_0 : ByteArray) (a0_1 : ByteArray) (a0_2 : Int) (a0_3 : Int) (P0_4_ : Nat → Prop) (A0_4 : Option Addr) (c0_4 : Nat) (l0_4 : List (S50)) (a1 : Int) (A2 : Option Addr) (c2 : Nat) (l2 : List Int) (r1 : ByteArray) (r2 : ByteArray) (r3 : Int) (r4 : Int) (r5 : List (S50)) (r6 : Int) (w : World) (hs0_4 : Kd.V k50 50 w w.heap.size (fun k_ => P0_4_ k_) (.slice A0_4 l0_4.length c0_4) l0_4) (hr2 : Kd.C (Kd.int .u8) w A2 l2.length l2) (hc2 : l2.length ≤ c2) (h : upload_Put.f k a0_0 a0_1 a0_2 a0_3 l0_4 a1 l2 = some (r1, r2, r3, r4, r5, r6)) :
    Calls Try.prog 27 #[.agg #[.string a0_0, .string a0_1, .int .u64 a0_2, .int .u64 a0_3, .slice A0_4 l0_4.length c0_4], .int .i64 a1, .slice A2 l2.length c2] w fun e w' => ∃ v4_ : Value, e = .returned (.tuple #[.agg #[.string r1, .string r2, .int .u64 r3, .int .u64 r4, v4_], .int .i64 r6]) ∧ Kd.N k50 50 w' w.heap.size (fun k_ => (P0_4_ k_ ∨ w.heap.size ≤ k_)) v4_ r5 ∧ Below w.heap.size w w' := by
  have hu36 := Try.underlying36
  have hu50 := Try.underlying50
  have hu34 := Try.underlying34
  have HV := Aside0.mk hs0_4
  have HR := Aside0.mk hr2
  have H := Aside0.mk h
  clear hs0_4 hr2 h
  go_enter Try.func27, Try.ntmps27
  go_upto_region 1 with (first
    | ((with_reducible refine gate_dst (N := 3) rfl ?_); refine box_event ?hg (N := 3) ?hd (cs := #[.string a0_0, .string a0_1, .int .u64 a0_2, .int .u64 a0_3, .slice A0_4 l0_4.length c0_4]) (t := 36) ?hr ?_; (case hd => rfl); (case hg => rfl); (case hr => first | (go_simp; done) | (go_simp; rfl)); intro g1 hg1 w1 hbox1 hb1; have B1 := Aside0.mk hbox1; have HB1 := Aside0.mk hb1; have G1 := Aside0.mk hg1; clear hg1 hbox1 hb1)
    | ((with_reducible refine gate_dst (N := 6) rfl ?_); refine box_event ?hg (N := 6) ?hd (cs := #[.string (⟨#[]⟩ : ByteArray), .string (⟨#[]⟩ : ByteArray), .int .u64 0, .int .u64 0, .slice none 0 0]) (t := 36) ?hr ?_; (case hd => rfl); (case hg => rfl); (case hr => first | (go_simp; done) | (go_simp; rfl)); intro g2 hg2 w2 hbox2 hb2; have B2 := Aside0.mk hbox2; have HB2 := Aside0.mk hb2; have G2 := Aside0.mk hg2; clear hg2 hbox2 hb2))
  have hb12 := Aside0.mk (HB1.out.trans (Below.mono HB2.out HB1.out.size) : Below w.heap.size w w2)
  have g1e := G1.out
  have g2e := G2.out
  have s1 := HB1.out.size
  have g1s : g1 < w1.heap.size := (Array.getElem?_eq_some_iff.1 B1.out).1
  have g2s : g2 < w2.heap.size := (Array.getElem?_eq_some_iff.1 B2.out).1
  have s2 := HB2.out.size
  have g1w : w.heap.size ≤ g1 := by omega
  have g2w : w.heap.size ≤ g2 := by omega
  have g12 : g1 ≠ g2 := by omega
  have g1l : g1 < w2.heap.size := by omega
  have g2l : g2 < w2.heap.size := by omega
  have hwl : w.heap.size ≤ w2.heap.size := by omega
  clear g1e g2e s1 g1s g2s s2 G1 G2
  have b1 := Aside0.mk (blk_below B1.out HB2.out)
  clear HB1 HB2 B1
  have H0 := H.out
  unfold upload_Put.f at H0
  have hc20 : w2.cell? ⟨g2, 0, none⟩ = some (.string (⟨#[]⟩ : ByteArray)) := (blk_cell B2.out 0).trans rfl
  have hc21 : w2.cell? ⟨g2, 1, none⟩ = some (.string (⟨#[]⟩ : ByteArray)) := (blk_cell B2.out 1).trans rfl
  have hc22 : w2.cell? ⟨g2, 2, none⟩ = some (.int .u64 0) := (blk_cell B2.out 2).trans rfl
  have hc23 : w2.cell? ⟨g2, 3, none⟩ = some (.int .u64 0) := (blk_cell B2.out 3).trans rfl
  have hc24 : w2.cell? ⟨g2, 4, none⟩ = some (.slice none 0 0) := (blk_cell B2.out 4).trans rfl
  have hf20 := blk_frozen B2.out 0
  have hf21 := blk_frozen B2.out 1
  have hf22 := blk_frozen B2.out 2
  have hf23 := blk_frozen B2.out 3
  have hf24 := blk_frozen B2.out 4
  clear H
  by_cases c1 : a1 < 1
  · rw [if_pos c1] at H0
    simp only [Option.some.injEq, Prod.mk.injEq] at H0
    obtain ⟨rfl, rfl, rfl, rfl, rfl, rfl⟩ := H0
    have hd : decide (a1 < 1) = true := decide_eq_true c1
    go_wp2
    refine bodyPost_ret (results_ct rfl _ _ g2 36 #[.string (⟨#[]⟩ : ByteArray), .string (⟨#[]⟩ : ByteArray), .int .u64 0, .int .u64 0, .slice none 0 0] (0, 0) _ rfl (put5_blk B2.out _ _ _ _ _) Try.underlying36 rfl (by kernel_rfl)) rfl ?_
    exact ⟨_, rfl, Kd.N_nil _ _ _ _ _, put5_below hb12.out g2w⟩
  rw [if_neg c1] at H0
  by_cases c2 : a1 > 4
  · rw [if_pos c2] at H0
    simp only [Option.some.injEq, Prod.mk.injEq] at H0
    obtain ⟨rfl, rfl, rfl, rfl, rfl, rfl⟩ := H0
    have hd : decide (a1 < 1) = false := decide_eq_false c1
    have hd2 : decide (a1 > 4) = true := decide_eq_true c2
    go_wp2
    refine bodyPost_ret (results_ct rfl _ _ g2 36 #[.string (⟨#[]⟩ : ByteArray), .string (⟨#[]⟩ : ByteArray), .int .u64 0, .int .u64 0, .slice none 0 0] (0, 0) _ rfl (put5_blk B2.out _ _ _ _ _) Try.underlying36 rfl (by kernel_rfl)) rfl ?_
    exact ⟨_, rfl, Kd.N_nil _ _ _ _ _, put5_below hb12.out g2w⟩
  rw [if_neg c2] at H0
  by_cases c3 : (l2.length : Int) > 1536
  · rw [if_pos c3] at H0
    simp only [Option.some.injEq, Prod.mk.injEq] at H0
    obtain ⟨rfl, rfl, rfl, rfl, rfl, rfl⟩ := H0
    have hd : decide (a1 < 1) = false := decide_eq_false c1
    have hd2 : decide (a1 > 4) = false := decide_eq_false c2
    have hd3 : decide ((l2.length : Int) > 1536) = true := decide_eq_true c3
    go_wp2
    refine bodyPost_ret (results_ct rfl _ _ g2 36 #[.string (⟨#[]⟩ : ByteArray), .string (⟨#[]⟩ : ByteArray), .int .u64 0, .int .u64 0, .slice none 0 0] (0, 0) _ rfl (put5_blk B2.out _ _ _ _ _) Try.underlying36 rfl (by kernel_rfl)) rfl ?_
    exact ⟨_, rfl, Kd.N_nil _ _ _ _ _, put5_below hb12.out g2w⟩
  rw [if_neg c3] at H0
  by_cases c4 : upload_Put.lim l0_4 = true
  case neg => rw [if_neg c4] at H0; cases H0
  rw [if_pos c4] at H0
  obtain ⟨⟨q1, q2⟩, hat, H1⟩ := Option.bind_eq_some_iff.mp H0
  simp only [Option.some.injEq, Prod.mk.injEq] at H1
  obtain ⟨rfl, rfl, rfl, rfl, rfl, rfl⟩ := H1
  clear H0
  have hL : l0_4.length < 3000000000000 ∧ ∀ x ∈ l0_4, x.f1.length < 3000000000000 := by
    unfold upload_Put.lim at c4
    simp only [Bool.and_eq_true, decide_eq_true_eq, List.all_eq_true] at c4
    exact c4
  clear c4
  have hd : decide (a1 < 1) = false := decide_eq_false c1
  have hd2 : decide (a1 > 4) = false := decide_eq_false c2
  have hd3 : decide ((l2.length : Int) > 1536) = false := decide_eq_false c3
  have hl1 := hL.1
  have HLs := Aside0.mk hL.2
  have HAT := Aside0.mk hat
  clear hL hat
  have hc10 : w2.cell? ⟨g1, 0, none⟩ = some (.string a0_0) := (blk_cell b1.out 0).trans rfl
  have hc11 : w2.cell? ⟨g1, 1, none⟩ = some (.string a0_1) := (blk_cell b1.out 1).trans rfl
  have hc12 : w2.cell? ⟨g1, 2, none⟩ = some (.int .u64 a0_2) := (blk_cell b1.out 2).trans rfl
  have hc13 : w2.cell? ⟨g1, 3, none⟩ = some (.int .u64 a0_3) := (blk_cell b1.out 3).trans rfl
  have hc14 : w2.cell? ⟨g1, 4, none⟩ = some (.slice A0_4 l0_4.length c0_4) := (blk_cell b1.out 4).trans rfl
  have hsV := Aside0.mk (Kd.V_old HV.out hb12.out)
  go_upto_region 6 with (go_at_call 47; refine (upload_Copy.calls a0_0 a0_1 a0_2 a0_3 (fun k => P0_4_ k ∧ k < w.heap.size) A0_4 c0_4 l0_4 w2 hsV.out (by omega) (fun x hx => Nat.lt_trans (HLs.out x hx) (by omega))).mono ?_; rintro e w3 ⟨v, rfl, hN, hb3⟩; obtain ⟨A, c, rfl⟩ := Kd.N_slice hN; have N3 := Aside0.mk hN; have b3 := Aside0.mk hb3; have b13 := Aside0.mk (blk_below b1.out hb3); have b23 := Aside0.mk (blk_below B2.out hb3); have hd10 : w3.cell? ⟨g1, 0, none⟩ = some (.string a0_0) := (blk_cell b13.out 0).trans rfl; have hd11 : w3.cell? ⟨g1, 1, none⟩ = some (.string a0_1) := (blk_cell b13.out 1).trans rfl; have hd12 : w3.cell? ⟨g1, 2, none⟩ = some (.int .u64 a0_2) := (blk_cell b13.out 2).trans rfl; have hd13 : w3.cell? ⟨g1, 3, none⟩ = some (.int .u64 a0_3) := (blk_cell b13.out 3).trans rfl; have hd14 : w3.cell? ⟨g1, 4, none⟩ = some (.slice A0_4 l0_4.length c0_4) := (blk_cell b13.out 4).trans rfl; have hz10 := blk_frozen b13.out 0; have hz11 := blk_frozen b13.out 1; have hz12 := blk_frozen b13.out 2; have hz13 := blk_frozen b13.out 3; have hz14 := blk_frozen b13.out 4; clear hN hb3)
  have hSt : CpSt w P0_4_ g1 g2 a0_0 a0_1 a0_2 a0_3 A c l0_4 (put5 w3 g1 (.string a0_0) (.string a0_1) (.int .u64 a0_2) (.int .u64 a0_3) (.slice A l0_4.length c)) :=
    ⟨put5_blk b13.out _ _ _ _ _, (put5_far g12.symm).trans b23.out,
      Kd.N_mono (Kd.N_step (Kd.N_lower N3.out hwl) (fun k hk _ => put5_far (by
        rcases hk with hk | hk
        · have := hk.2; omega
        · omega))) (fun k hk => by
        rcases hk with hk | hk
        · have := hk.2
          exact ⟨.inl hk.1, by omega, by omega⟩
        · exact ⟨.inr (by omega), by omega, by omega⟩),
      put5_below (hb12.out.trans (Below.mono b3.out hwl)) g1w⟩
  unfold put5 at hSt
  have hR4 := Aside0.mk (Kd.C_below HR.out hSt.bl)
  generalize ((((w3.setCell ⟨g1, 0, none⟩ (.string a0_0)).setCell ⟨g1, 1, none⟩ (.string a0_1)).setCell ⟨g1, 2, none⟩ (.int .u64 a0_2)).setCell ⟨g1, 3, none⟩ (.int .u64 a0_3)).setCell ⟨g1, 4, none⟩ (.slice A l0_4.length c) = W4 at hSt hR4 ⊢
  have HS := Aside0.mk hSt
  have g1v := blk_lt hSt.b1
  have g2v := blk_lt hSt.b2
  clear hSt b1 b13 b23 N3 b3 hsV hb12 B2 HV HR hc20 hc21 hc22 hc23 hc24 hf20 hf21 hf22 hf23 hf24 hc10 hc11 hc12 hc13 hc14 hd10 hd11 hd12 hd13 hd14 hz10 hz11 hz12 hz13 hz14 g1l g2l hwl
  have HCF := Aside0.mk (show slices_Clone_byte_byte.f l2 = some l2 by unfold slices_Clone_byte_byte.f; rw [if_pos (by omega)])
  go_upto_region 7 with (go_at_call 48; refine (slices_Clone_byte_byte.calls A2 _ l2 l2 W4 hR4.out hc2 HCF.out).mono ?_; rintro e w6 ⟨v8, rfl, ho8, hb8⟩; obtain ⟨A8, c8, rfl⟩ := Kd.R_slice ho8; have R8 := Aside0.mk ho8; have HS6 := Aside0.mk (HS.out.below hb8); have hs8 := hb8.size; clear ho8 hb8)
  have hBa : Below w6.heap.size w6 (w6.alloc (.cells #[.int .i64 a1, .slice A8 l2.length c8] 50)) := below_alloc (Below.refl _ _) _
  have hlt4 := Kd.N_lt HS.out.n
  have hPB : PuB w P0_4_ g1 g2 a0_0 a0_1 a0_2 a0_3 A c l0_4 w6.heap.size a1 A8 c8 l2 (w6.alloc (.cells #[.int .i64 a1, .slice A8 l2.length c8] 50)) :=
    ⟨HS6.out.below hBa, blk_new w6 _, Kd.F_below (Kd.F_mono (Kd.R_F (Kd.R_tight rfl R8.out)) (fun k hk => by
      have h1 := Kd.R_base R8.out k hk.symm
      have h2 := HS.out.bl.size
      exact ⟨by omega, by omega, by omega, fun e => by have := hlt4 k e.symm; omega⟩)) hBa, fun e => by have := hlt4 _ e.symm; omega, (Kd.R_reads' R8.out).2.1⟩
  clear hBa hlt4 HS HS6 R8 hR4 HCF
  generalize w6.alloc (.cells #[.int .i64 a1, .slice A8 l2.length c8] 50) = W7 at hPB ⊢
  generalize w6.heap.size = g8 at hPB hs8 ⊢
  have HP := Aside0.mk hPB
  clear hPB
  have hc14 : W7.cell? ⟨g1, 4, none⟩ = some (.slice A l0_4.length c) := (blk_cell HP.out.st.b1 4).trans rfl
  have hc10 : W7.cell? ⟨g1, 0, none⟩ = some (.string a0_0) := (blk_cell HP.out.st.b1 0).trans rfl
  have hc11 : W7.cell? ⟨g1, 1, none⟩ = some (.string a0_1) := (blk_cell HP.out.st.b1 1).trans rfl
  have hc12 : W7.cell? ⟨g1, 2, none⟩ = some (.int .u64 a0_2) := (blk_cell HP.out.st.b1 2).trans rfl
  have hc13 : W7.cell? ⟨g1, 3, none⟩ = some (.int .u64 a0_3) := (blk_cell HP.out.st.b1 3).trans rfl
  have hrng := upload_at.b_range k l0_4 a1 0 l0_4.length q1 q2 (by have h := HAT.out; unfold upload_at.f at h; rw [if_pos (by omega)] at h; exact h) (Int.le_refl _) (by omega) (Int.le_refl _)
  go_upto_region 8 with (go_at_call 45; refine (upload_at.calls k a0_0 a0_1 a0_2 a0_3 A c l0_4 a1 q1 q2 W7 (Kd.N_reads' HP.out.st.n).2.2 (Kd.N_reads' HP.out.st.n).2.1 HAT.out).mono ?_; rintro e w8 ⟨rfl, hb8⟩; have HP8 := Aside0.mk (HP.out.below hb8); clear hb8)
  clear hc10 hc11 hc12 hc13 hc14 HP hs8 HAT
  obtain ⟨n1, rfl⟩ : ∃ n : Nat, q1 = n := ⟨q1.toNat, by omega⟩
  have hd14 : w8.cell? ⟨g1, 4, none⟩ = some (.slice A l0_4.length c) := (blk_cell HP8.out.st.b1 4).trans rfl
  have hd80 : w8.cell? ⟨g8, 0, none⟩ = some (.int .i64 a1) := (blk_cell HP8.out.b8 0).trans rfl
  have hd81 : w8.cell? ⟨g8, 1, none⟩ = some (.slice A8 l2.length c8) := (blk_cell HP8.out.b8 1).trans rfl
  cases q2 with
  | true =>
    have hlt : n1 < l0_4.length := by have := hrng.2.2 rfl; omega
    obtain ⟨g, cap, hv, hgb, hgl, curg, hgc⟩ := Kd.N_form HP8.out.st.n (by omega)
    obtain ⟨rfl, _, rfl⟩ := Value.slice.inj hv
    clear hv
    obtain ⟨cs, hcl, _, hcc, hfr⟩ := Kd.N_elem HP8.out.st.n z50 (n1 : Int) (by omega) (by omega)
    rw [Int.toNat_natCast] at hcc hfr
    have hk50 : k50.sz = 2 := rfl
    rw [hk50] at hcc hfr hcl
    obtain ⟨p, q, rfl⟩ : ∃ p q, cs = [p, q] := by
      match cs, hcl with
      | [p, q], _ => exact ⟨p, q, rfl⟩
    have hcp : w8.cell? ⟨g, n1 * 2, none⟩ = some p := hcc 0 p rfl
    have hcq : w8.cell? ⟨g, n1 * 2 + 1, none⟩ = some q := hcc 1 q rfl
    have hfp : w8.frozen? ⟨g, n1 * 2, none⟩ = false := hfr 0
    have hfq : w8.frozen? ⟨g, n1 * 2 + 1, none⟩ = false := hfr 1
    have hgn1 : g ≠ g1 := fun e => by
      subst e
      rw [HP8.out.st.b1] at hgc
      simp at hgc
    have hgn2 : g ≠ g2 := fun e => by
      subst e
      rw [HP8.out.st.b2] at hgc
      simp at hgc
    have hM : Kd.FK k50 w8 (fun k => w.heap.size ≤ k ∧ k ≠ g1 ∧ k ≠ g2 ∧ some k ≠ (Value.slice (some ⟨g, 0, none⟩) l0_4.length c).ownBlock) (⟨a1, l2⟩ : S50) [.int .i64 a1, .slice A8 l2.length c8] := k50_mkF w8 _ ⟨a1, l2⟩ HP8.out.le HP8.out.f
    have hN := (Kd.N_seg HP8.out.st.n (n1 : Int) (by omega) (by omega) (c := [p, q]) (seg := [.int .i64 a1, .slice A8 l2.length c8]) (j := 0) (x' := ⟨a1, l2⟩) rfl (by rw [Int.toNat_natCast]; exact hcc) (show 0 + 2 ≤ 2 from Nat.le_refl _) hM (fun k hk => ⟨⟨.inr hk.1, hk.2.1, hk.2.2.1⟩, fun e => hk.2.2.2 (by rw [e]; rfl)⟩)).1
    have HN := Aside0.mk hN
    clear hcc hfr hgc hM hN hrng
    go_upto_region 11 with fail
    obtain ⟨l9, hl9⟩ : ∃ l9, l9 = l0_4.set n1 ⟨a1, l2⟩ := ⟨_, rfl⟩
    have hlen : l0_4.length = l9.length := by rw [hl9, List.length_set]
    have HL9 : Aside0 (l0_4.set n1 ⟨a1, l2⟩ = l9) := .mk hl9.symm
    obtain ⟨A9, hA9⟩ : ∃ A9, A9 = some (⟨g, 0, none⟩ : Addr) := ⟨_, rfl⟩
    obtain ⟨c9, hc9⟩ : ∃ c9, c9 = c := ⟨_, rfl⟩
    have hb1 := HP8.out.st.b1
    have hn9 := HN.out
    rw [Int.toNat_natCast, ← hl9] at hn9
    rw [hlen, ← hA9, ← hc9] at hb1 hn9
    have hSt : CpSt w P0_4_ g1 g2 a0_0 a0_1 a0_2 a0_3 A9 c9 l9 ((w8.setCell ⟨g, n1 * 2, none⟩ (.int .i64 a1)).setCell ⟨g, n1 * 2 + 1, none⟩ (.slice A8 l2.length c8)) :=
      ⟨blk_far (blk_far hb1 hgn1.symm _) hgn1.symm _, blk_far (blk_far HP8.out.st.b2 hgn2.symm _) hgn2.symm _, hn9, (HP8.out.st.bl.setCell (p := ⟨g, n1 * 2, none⟩) hgb _).setCell (p := ⟨g, n1 * 2 + 1, none⟩) hgb _⟩
    generalize (w8.setCell ⟨g, n1 * 2, none⟩ (.int .i64 a1)).setCell ⟨g, n1 * 2 + 1, none⟩ (.slice A8 l2.length c8) = W11 at hSt ⊢
    have HS := Aside0.mk hSt
    clear hSt hb1 hn9 hlen hA9 hc9 hl9 hcp hcq hfp hfq hd14 hd80 hd81 HN HP8
    have hc10 : W11.cell? ⟨g1, 0, none⟩ = some (.string a0_0) := (blk_cell HS.out.b1 0).trans rfl
    have hc11 : W11.cell? ⟨g1, 1, none⟩ = some (.string a0_1) := (blk_cell HS.out.b1 1).trans rfl
    have hc12 : W11.cell? ⟨g1, 2, none⟩ = some (.int .u64 a0_2) := (blk_cell HS.out.b1 2).trans rfl
    have hc13 : W11.cell? ⟨g1, 3, none⟩ = some (.int .u64 a0_3) := (blk_cell HS.out.b1 3).trans rfl
    have hc14 : W11.cell? ⟨g1, 4, none⟩ = some (.slice A9 l9.length c9) := (blk_cell HS.out.b1 4).trans rfl
    have hc20 : W11.cell? ⟨g2, 0, none⟩ = some (.string (⟨#[]⟩ : ByteArray)) := (blk_cell HS.out.b2 0).trans rfl
    have hc21 : W11.cell? ⟨g2, 1, none⟩ = some (.string (⟨#[]⟩ : ByteArray)) := (blk_cell HS.out.b2 1).trans rfl
    have hc22 : W11.cell? ⟨g2, 2, none⟩ = some (.int .u64 0) := (blk_cell HS.out.b2 2).trans rfl
    have hc23 : W11.cell? ⟨g2, 3, none⟩ = some (.int .u64 0) := (blk_cell HS.out.b2 3).trans rfl
    have hc24 : W11.cell? ⟨g2, 4, none⟩ = some (.slice none 0 0) := (blk_cell HS.out.b2 4).trans rfl
    have hf20 := blk_frozen HS.out.b2 0
    have hf21 := blk_frozen HS.out.b2 1
    have hf22 := blk_frozen HS.out.b2 2
    have hf23 := blk_frozen HS.out.b2 3
    have hf24 := blk_frozen HS.out.b2 4
    go_wp2
    refine bodyPost_ret (results_ct rfl _ _ g2 36 #[.string a0_0, .string a0_1, .int .u64 a0_2, .int .u64 a0_3, .slice A9 l9.length c9] (0, 0) _ rfl (put5_blk HS.out.b2 _ _ _ _ _) Try.underlying36 rfl (by kernel_rfl)) rfl ?_
    refine ⟨_, rfl, ?_, put5_below HS.out.bl g2w⟩
    rw [HL9.out]
    exact Kd.N_mono (Kd.N_step HS.out.n (fun k hk _ => put5_far hk.2.2)) (fun _ hk => hk.1)
  | false =>
    have hn1 : n1 ≤ l0_4.length := by omega
    have gn1 := Kd.N_ne HP8.out.st.n HP8.out.st.b1 (by decide)
    have gn2 := Kd.N_ne HP8.out.st.n HP8.out.st.b2 (by decide)
    have nlt := Kd.N_lt HP8.out.st.n
    have nba := Kd.N_base HP8.out.st.n
    have hws := HP8.out.st.bl.size
    have g1v8 := blk_lt HP8.out.st.b1
    have g2v8 := blk_lt HP8.out.st.b2
    obtain ⟨l9, hl9⟩ : ∃ l9, l9 = l0_4.take n1 ++ ⟨a1, l2⟩ :: l0_4.drop n1 := ⟨_, rfl⟩
    have HL9 : Aside0 (l0_4.take n1 ++ ⟨a1, l2⟩ :: l0_4.drop n1 = l9) := .mk hl9.symm
    have hI := (ins_N (ok := fun k => (P0_4_ k ∨ w.heap.size ≤ k) ∧ k ≠ g1 ∧ k ≠ g2) (okp := fun k => w.heap.size ≤ k ∧ k ≠ g1 ∧ k ≠ g2 ∧ some k ≠ (Value.slice A l0_4.length c).ownBlock) w.heap.size n1 w8.heap.size (.slice A l0_4.length c) (.int .i64 a1) (.slice A8 l2.length c8) l0_4 ⟨a1, l2⟩ (w8.alloc (.cells #[.int .i64 a1, .slice A8 l2.length c8] 50))
      (Kd.N_alloc HP8.out.st.n _) hn1 (by omega) (by simp; omega) (blk_new w8 _) (fun e => by have := nlt _ e.symm; omega) (k50_mkF _ _ ⟨a1, l2⟩ HP8.out.le (Kd.F_alloc HP8.out.f _)) (fun k hk => ⟨⟨.inr hk.1, hk.2.1, hk.2.2.1⟩, hk.2.2.2⟩) (fun k hk => by simp at hk; exact ⟨.inr (by omega), by omega, by omega⟩))
    rw [← hl9] at hI
    have HI := Aside0.mk hI
    clear hI hl9
    have b18 := Aside0.mk (blk_below HP8.out.st.b1 (below_alloc (Below.refl _ _) (.cells #[.int .i64 a1, .slice A8 l2.length c8] 50)))
    have b28 := Aside0.mk (blk_below HP8.out.st.b2 (below_alloc (Below.refl _ _) (.cells #[.int .i64 a1, .slice A8 l2.length c8] 50)))
    have bl8 := Aside0.mk (HP8.out.st.bl.alloc hws (.cells #[.int .i64 a1, .slice A8 l2.length c8] 50))
    have hva : g1 < (w8.alloc (.cells #[.int .i64 a1, .slice A8 l2.length c8] 50)).heap.size ∧ g2 < (w8.alloc (.cells #[.int .i64 a1, .slice A8 l2.length c8] 50)).heap.size := by simp; omega
    have HVA := Aside0.mk hva
    clear hrng hva
    go_upto_region 11 with (go_at_call 49; refine HI.out.mono ?_; rintro e w9 ⟨v9, rfl, hN9, hK9, hat9, hb9⟩; obtain ⟨A9, c9, rfl⟩ := Kd.N_slice hN9; have b19 := Aside0.mk ((hK9.2 g1 HVA.out.1 gn1).trans b18.out); have b29 := Aside0.mk ((hK9.2 g2 HVA.out.2 gn2).trans b28.out); have N9 := Aside0.mk hN9; have B9 := Aside0.mk hb9; have hw14 : w9.cell? ⟨g1, 4, none⟩ = some (.slice A l0_4.length c) := (blk_cell b19.out 4).trans rfl; have hz14 := blk_frozen b19.out 4; clear hN9 hK9 hat9 hb9)
    have hSt : CpSt w P0_4_ g1 g2 a0_0 a0_1 a0_2 a0_3 A9 c9 l9 (w9.setCell ⟨g1, 4, none⟩ (.slice A9 l9.length c9)) :=
      ⟨blk_put (cs := #[.string a0_0, .string a0_1, .int .u64 a0_2, .int .u64 a0_3, .slice A l0_4.length c]) b19.out 4 _ rfl, blk_far b29.out g12.symm _, Kd.N_far (p := ⟨g1, 4, none⟩) N9.out (fun k hk => hk.2.1) _, (bl8.out.trans B9.out).setCell (p := ⟨g1, 4, none⟩) g1w _⟩
    generalize w9.setCell ⟨g1, 4, none⟩ (.slice A9 l9.length c9) = W11 at hSt ⊢
    have HS := Aside0.mk hSt
    clear hSt hd14 hd80 hd81 HP8 HI b18 b28 b19 b29 N9 B9 hw14 hz14 bl8 nlt nba
    have hc10 : W11.cell? ⟨g1, 0, none⟩ = some (.string a0_0) := (blk_cell HS.out.b1 0).trans rfl
    have hc11 : W11.cell? ⟨g1, 1, none⟩ = some (.string a0_1) := (blk_cell HS.out.b1 1).trans rfl
    have hc12 : W11.cell? ⟨g1, 2, none⟩ = some (.int .u64 a0_2) := (blk_cell HS.out.b1 2).trans rfl
    have hc13 : W11.cell? ⟨g1, 3, none⟩ = some (.int .u64 a0_3) := (blk_cell HS.out.b1 3).trans rfl
    have hc14 : W11.cell? ⟨g1, 4, none⟩ = some (.slice A9 l9.length c9) := (blk_cell HS.out.b1 4).trans rfl
    have hc20 : W11.cell? ⟨g2, 0, none⟩ = some (.string (⟨#[]⟩ : ByteArray)) := (blk_cell HS.out.b2 0).trans rfl
    have hc21 : W11.cell? ⟨g2, 1, none⟩ = some (.string (⟨#[]⟩ : ByteArray)) := (blk_cell HS.out.b2 1).trans rfl
    have hc22 : W11.cell? ⟨g2, 2, none⟩ = some (.int .u64 0) := (blk_cell HS.out.b2 2).trans rfl
    have hc23 : W11.cell? ⟨g2, 3, none⟩ = some (.int .u64 0) := (blk_cell HS.out.b2 3).trans rfl
    have hc24 : W11.cell? ⟨g2, 4, none⟩ = some (.slice none 0 0) := (blk_cell HS.out.b2 4).trans rfl
    have hf20 := blk_frozen HS.out.b2 0
    have hf21 := blk_frozen HS.out.b2 1
    have hf22 := blk_frozen HS.out.b2 2
    have hf23 := blk_frozen HS.out.b2 3
    have hf24 := blk_frozen HS.out.b2 4
    go_wp2
    refine bodyPost_ret (results_ct rfl _ _ g2 36 #[.string a0_0, .string a0_1, .int .u64 a0_2, .int .u64 a0_3, .slice A9 l9.length c9] (0, 0) _ rfl (put5_blk HS.out.b2 _ _ _ _ _) Try.underlying36 rfl (by kernel_rfl)) rfl ?_
    refine ⟨_, rfl, ?_, put5_below HS.out.bl g2w⟩
    rw [HL9.out]
    exact Kd.N_mono (Kd.N_step HS.out.n (fun k hk _ => put5_far hk.2.2)) (fun _ hk => hk.1)


/-! ### stelelaw16_alive: function 21 (its contract proved by hand) -/
def alive_e : ByteArray := ⟨#[]⟩
theorem alive_p1 : upload_Put.f 9 alive_e alive_e 3 0 [] 2 [98] = some (alive_e, alive_e, 3, 0, [⟨2, [98]⟩], 0) := by kernel_rfl
theorem alive_p2 : upload_Put.f 9 alive_e alive_e 3 0 [⟨2, [98]⟩] 1 [97] = some (alive_e, alive_e, 3, 0, [⟨1, [97]⟩, ⟨2, [98]⟩], 0) := by kernel_rfl
theorem alive_p3 : upload_Join.f 30 alive_e alive_e 3 0 [⟨1, [97]⟩, ⟨2, [98]⟩] [1, 2] = some ([97, 98], 0) := by kernel_rfl
theorem alive_p4 : upload_Total.f 9 alive_e alive_e 3 0 [⟨1, [97]⟩, ⟨2, [98]⟩] = some 2 := by kernel_rfl
theorem C_lit {W : World} {b e : Nat} {k : IntKind} {l : List Int} {fz : Nat × Nat} (h : W.heap[b]? = some (.cells (nums k l).toArray e fz)) (hl : l.length ≤ 9223372036854775807) : Kd.C (Kd.int k) W (some ⟨b, 0, none⟩) l.length l := by
  refine ⟨rfl, hl, fun _ => ⟨_, rfl, fun j p hj => ⟨[.int k p], rfl, rfl, fun i u hi => ?_⟩⟩⟩
  have hi0 : i = 0 := by
    have := (List.getElem?_eq_some_iff.1 hi).1
    simp at this
    exact this
  subst hi0
  have hu : Value.int k p = u := by simpa using hi
  subst hu
  show W.cell? ((⟨b, 0, none⟩ : Addr).add (j * 1 + 0)) = _
  rw [Addr.add_lit, Nat.mul_one, Nat.add_zero, Nat.zero_add]
  simp [World.cell?, h, nums, hj]
def stelelaw16_alive.f : Option Bool := some true
set_option maxHeartbeats 8000000 in
set_option maxRecDepth 100000 in
theorem stelelaw16_alive.calls (r : Bool) (w : World) (h : stelelaw16_alive.f = some r) :
    Calls Try.prog 21 #[] w fun e w' => e = .returned (.bool r) ∧ Below w.heap.size w w' := by
  obtain rfl : true = r := Option.some.inj h
  have hu36 := Try.underlying36
  have hu39 := Try.underlying39
  have HB := Aside0.mk (Below.refl w.heap.size w)
  clear h
  go_enter Try.func21, Try.ntmps21
  go_wp2
  simp only [Lib.run_convert_bytes_const _ 39 5 _ _ _ Try.underlying39 Try.underlying5]
  have W1b : Below w.heap.size w (w.alloc (.cells #[.int .u8 98] 5 (1, 2))) := below_alloc (Below.refl _ _) _
  have C1 : Kd.C (Kd.int .u8) (w.alloc (.cells #[.int .u8 98] 5 (1, 2))) (some ⟨w.heap.size, 0, none⟩) 1 [98] := C_lit (l := [98]) (heap_alloc_new w _) (by decide)
  have H1 := Aside0.mk (And.intro W1b C1)
  clear W1b C1
  go_upto_region 2 with (go_at_call 27; refine (upload_Put.calls 9 alive_e alive_e 3 0 (fun _ => False) none 0 [] 2 (some ⟨w.heap.size, 0, none⟩) 1 [98] _ _ _ _ _ _ _ (Kd.V_nil _ _ _ _ _) H1.out.2 (Nat.le_refl _) alive_p1).mono ?_; rintro e w2 ⟨v2, rfl, hN, hb⟩; obtain ⟨A2, c2, rfl⟩ := Kd.N_slice hN; have N2 := Aside0.mk hN; have B2 := Aside0.mk (H1.out.1.trans (Below.mono hb H1.out.1.size)); have hs2 := hb.size; clear hN hb)
  have hB2 : Below w.heap.size w (w2.alloc (.cells #[.string alive_e, .string alive_e, .int .u64 3, .int .u64 0, .slice A2 1 c2] 36)) := below_alloc B2.out _
  have hV2 : Kd.V k50 50 (w2.alloc (.cells #[.string alive_e, .string alive_e, .int .u64 3, .int .u64 0, .slice A2 1 c2] 36)) 0 (fun _ => True) (.slice A2 1 c2) [⟨2, [98]⟩] := Kd.V_mono (Kd.N_V (Kd.N_alloc N2.out _)) (fun _ _ => trivial)
  have hb1 := blk_new w2 (.cells #[.string alive_e, .string alive_e, .int .u64 3, .int .u64 0, .slice A2 1 c2] 36)
  clear N2 B2 H1 hs2 HB
  generalize w2.alloc (.cells #[.string alive_e, .string alive_e, .int .u64 3, .int .u64 0, .slice A2 1 c2] 36) = W2 at hB2 hV2 hb1 ⊢
  generalize w2.heap.size = g1 at hb1 ⊢
  have B2 := Aside0.mk hB2
  have V2 := Aside0.mk hV2
  have hc10 : W2.cell? ⟨g1, 0, none⟩ = some (.string alive_e) := (blk_cell hb1 0).trans rfl
  have hc11 : W2.cell? ⟨g1, 1, none⟩ = some (.string alive_e) := (blk_cell hb1 1).trans rfl
  have hc12 : W2.cell? ⟨g1, 2, none⟩ = some (.int .u64 3) := (blk_cell hb1 2).trans rfl
  have hc13 : W2.cell? ⟨g1, 3, none⟩ = some (.int .u64 0) := (blk_cell hb1 3).trans rfl
  have hc14 : W2.cell? ⟨g1, 4, none⟩ = some (.slice A2 1 c2) := (blk_cell hb1 4).trans rfl
  clear hB2 hV2 hb1
  go_wp2
  simp only [Lib.run_convert_bytes_const _ 39 5 _ _ _ Try.underlying39 Try.underlying5]
  have W3b : Below w.heap.size w (W2.alloc (.cells #[.int .u8 97] 5 (1, 2))) := below_alloc B2.out _
  have C3 : Kd.C (Kd.int .u8) (W2.alloc (.cells #[.int .u8 97] 5 (1, 2))) (some ⟨W2.heap.size, 0, none⟩) 1 [97] := C_lit (l := [97]) (heap_alloc_new W2 _) (by decide)
  have H3 := Aside0.mk (And.intro W3b (And.intro C3 (Kd.V_alloc V2.out (.cells #[.int .u8 97] 5 (1, 2)))))
  clear W3b C3
  go_upto_region 3 with (go_at_call 27; refine (upload_Put.calls 9 alive_e alive_e 3 0 (fun _ => True) A2 c2 [⟨2, [98]⟩] 1 (some ⟨W2.heap.size, 0, none⟩) 1 [97] _ _ _ _ _ _ _ H3.out.2.2 H3.out.2.1 (Nat.le_refl _) alive_p2).mono ?_; rintro e w4 ⟨v4, rfl, hN, hb⟩; obtain ⟨A4, c4, rfl⟩ := Kd.N_slice hN; have N4 := Aside0.mk hN; have B4 := Aside0.mk (H3.out.1.trans (Below.mono hb H3.out.1.size)); clear hN hb)
  have hB4 : Below w.heap.size w (w4.alloc (.cells #[.string alive_e, .string alive_e, .int .u64 3, .int .u64 0, .slice A4 2 c4] 36)) := below_alloc B4.out _
  have hV4 : Kd.V k50 50 (w4.alloc (.cells #[.string alive_e, .string alive_e, .int .u64 3, .int .u64 0, .slice A4 2 c4] 36)) 0 (fun _ => True) (.slice A4 2 c4) [⟨1, [97]⟩, ⟨2, [98]⟩] := Kd.V_mono (Kd.N_V (Kd.N_alloc N4.out _)) (fun _ _ => trivial)
  have hb1 := blk_new w4 (.cells #[.string alive_e, .string alive_e, .int .u64 3, .int .u64 0, .slice A4 2 c4] 36)
  clear N4 B4 H3 B2 V2 hc10 hc11 hc12 hc13 hc14
  generalize w4.alloc (.cells #[.string alive_e, .string alive_e, .int .u64 3, .int .u64 0, .slice A4 2 c4] 36) = W4 at hB4 hV4 hb1 ⊢
  generalize w4.heap.size = g3 at hb1 ⊢
  have B4 := Aside0.mk hB4
  have V4 := Aside0.mk hV4
  have b3 := Aside0.mk hb1
  have hc30 : W4.cell? ⟨g3, 0, none⟩ = some (.string alive_e) := (blk_cell hb1 0).trans rfl
  have hc31 : W4.cell? ⟨g3, 1, none⟩ = some (.string alive_e) := (blk_cell hb1 1).trans rfl
  have hc32 : W4.cell? ⟨g3, 2, none⟩ = some (.int .u64 3) := (blk_cell hb1 2).trans rfl
  have hc33 : W4.cell? ⟨g3, 3, none⟩ = some (.int .u64 0) := (blk_cell hb1 3).trans rfl
  have hc34 : W4.cell? ⟨g3, 4, none⟩ = some (.slice A4 2 c4) := (blk_cell hb1 4).trans rfl
  clear hB4 hV4 hb1
  have W5b : Below w.heap.size w (W4.alloc (.cells #[.int .i64 1, .int .i64 2] 3)) := below_alloc B4.out _
  have C5 : Kd.C (Kd.int .i64) (W4.alloc (.cells #[.int .i64 1, .int .i64 2] 3)) (some ⟨W4.heap.size, 0, none⟩) 2 [1, 2] := C_lit (l := [1, 2]) (heap_alloc_new W4 _) (by decide)
  have b5 := blk_alloc b3.out (.cells #[.int .i64 1, .int .i64 2] 3)
  have H5 := Aside0.mk (And.intro W5b (And.intro C5 (And.intro (Kd.V_alloc V4.out (.cells #[.int .i64 1, .int .i64 2] 3)) b5)))
  clear W5b C5 b5
  go_upto_region 4 with (go_at_call 22; refine (upload_Join.calls 30 alive_e alive_e 3 0 (fun _ => True) A4 c4 [⟨1, [97]⟩, ⟨2, [98]⟩] (some ⟨W4.heap.size, 0, none⟩) 2 [1, 2] _ _ _ H5.out.2.2.1 H5.out.2.1 (Nat.le_refl _) alive_p3).mono ?_; rintro e w6 ⟨v6, rfl, hR, hb⟩; obtain ⟨A6, c6, rfl⟩ := Kd.R_slice hR; have R6 := Aside0.mk hR; have B6 := Aside0.mk (H5.out.1.trans (Below.mono hb H5.out.1.size)); have b6 := Aside0.mk (blk_below H5.out.2.2.2 hb); have V6 := Aside0.mk (Kd.V_below H5.out.2.2.1 hb); clear hR hb)
  have hs : strOfNums [97, 98] = ⟨#[97, 98]⟩ := by kernel_rfl
  have hcv : (convert 39 9 (.slice A6 2 c6)).run Try.prog w6 = .ok (.string ⟨#[97, 98]⟩) w6 := by
    have h := own_string (P := Try.prog) Try.underlying39 Try.underlying5 Try.underlying9 (Kd.own_of_R R6.out)
    rw [hs] at h
    exact h
  have hc32' : w6.cell? ⟨g3, 2, none⟩ = some (.int .u64 3) := (blk_cell b6.out 2).trans rfl
  have hc30' : w6.cell? ⟨g3, 0, none⟩ = some (.string alive_e) := (blk_cell b6.out 0).trans rfl
  have hc31' : w6.cell? ⟨g3, 1, none⟩ = some (.string alive_e) := (blk_cell b6.out 1).trans rfl
  have hc33' : w6.cell? ⟨g3, 3, none⟩ = some (.int .u64 0) := (blk_cell b6.out 3).trans rfl
  have hc34' : w6.cell? ⟨g3, 4, none⟩ = some (.slice A4 2 c4) := (blk_cell b6.out 4).trans rfl
  clear hs H5 B4 V4 b3 hc30 hc31 hc32 hc33 hc34 b6
  go_wp2_with (go_at_call 25; refine (upload_Total.calls 9 alive_e alive_e 3 0 A4 c4 [⟨1, [97]⟩, ⟨2, [98]⟩] _ _ (Kd.F_now (Kd.V_F V6.out)) (Kd.V_at V6.out).2.1 alive_p4).mono ?_; rintro e w7 ⟨rfl, hb⟩; have B7 := Aside0.mk (B6.out.trans (Below.mono hb B6.out.size)); clear hb)
  go_ret
  exact ⟨rfl, B7.out⟩


end Go.Proofs.Ytdfkinkihkgdbaa.PUp
