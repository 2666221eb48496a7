/- The contracts of strings.Builder's writers at a builder that the call itself has made, over this seat's translation. -/
import Derived.Test.YtdfkinkihkgdbaaDoorProg
import Derived.Test.YtdfkinkihkgdbaaDoorCore
import Derived.Test.YtdfkinkihkgdbaaDoorShelf
import Derived.Lib.Builder
import Derived.Lib.Strings
import Derived.Lib.AppendStr
import Derived.Lib.UnsafeStr
import Derived.WalkKit
import Derived.KernelRfl
import Derived.Laws.Externs
set_option linter.unusedVariables false
namespace Go.Proofs.YtdfkinkihkgdbaaDoor
open Go.RowKit
theorem bInfo : (Tryd.prog.info? 67).map (·.size) = some 2 := by kernel_rfl
theorem bLies : liesAt Tryd.prog Tryd.prog.depth 67 (2 / Tryd.prog.cellsOf 67) 0 67 1 = true := by kernel_rfl
theorem byteInfo : (Tryd.prog.info? 5).map (fun i => (i.zero, i.size, i.bytes)) = some (some (.int .u8 0), 1, 1) := by kernel_rfl

set_option maxHeartbeats 1000000 in
set_option maxRecDepth 100000 in
theorem copyCheck_used (b : Nat) (w : World) (h0 : w.cell? ⟨b, 0, none⟩ = some (.pointer (some ⟨b, 0, none⟩))) :
    Calls Tryd.prog 44 #[.pointer (some ⟨b, 0, none⟩)] w fun e w' => e = .returned (.tuple #[]) ∧ w' = w := by
  obtain ⟨j, hj, _⟩ := Option.map_eq_some_iff.1 bInfo
  go_enter Tryd.func44, Tryd.ntmps44
  go_wp2
  rw [Lib.run_neq_ptr_same w _ Tryd.underlying64 hj]
  go_wp2
  go_end0
  exact ⟨rfl, rfl⟩

set_option maxHeartbeats 1000000 in
set_option maxRecDepth 100000 in
theorem copyCheck_fresh (b : Nat) (w : World) (h0 : w.cell? ⟨b, 0, none⟩ = some (.pointer none)) (hsh : w.shape? b = some (67, 2)) (hfz : w.frozen? ⟨b, 0, none⟩ = false) :
    Calls Tryd.prog 44 #[.pointer (some ⟨b, 0, none⟩)] w fun e w' => e = .returned (.tuple #[]) ∧ w' = w.setCell ⟨b, 0, none⟩ (.pointer (some ⟨b, 0, none⟩)) := by
  obtain ⟨j, hj, hjs⟩ := Option.map_eq_some_iff.1 bInfo
  go_enter Tryd.func44, Tryd.ntmps44
  go_wp2
  rw [Lib.run_to_unsafe w ⟨b, 0, none⟩ Tryd.underlying64 Tryd.underlying100 hj (by rw [hjs]; decide) hsh (Nat.zero_lt_succ 1)]
  simp only [Result.andThen]
  rw [Oper.upon_value]
  go_wp2
  rw [run_callFunc_extern Tryd.func62 (by kernel_rfl) (by kernel_rfl) (by kernel_rfl) (e := Extern.AbiNoEscape.same) (by kernel_rfl)]
  rw [Lib.run_noEscape]
  simp only [Result.andThen]
  rw [Oper.upon_value]
  go_wp2
  rw [Lib.run_from_unsafe w ⟨b, 0, none⟩ Tryd.underlying100 Tryd.underlying64 hj hsh bLies]
  simp only [Result.andThen]
  rw [Oper.upon_value]
  go_wp2
  go_end0
  exact ⟨rfl, rfl⟩

/-- A builder of the call's own in block b, with the bytes l; its row is nil or lies from block base on. -/
def Bld (b base : Nat) (l : List UInt8) (w : World) : Prop :=
  b < base ∧ ∃ p v, (p = .pointer none ∨ p = .pointer (some ⟨b, 0, none⟩)) ∧ w.heap[b]? = some (.cells #[p, v] 67 (0, 0)) ∧ w.ownsRow base 5 1 v l.length (bcells l)

/-- .. behind a first write. -/
def BldW (b base : Nat) (l : List UInt8) (w : World) : Prop :=
  b < base ∧ ∃ v, w.heap[b]? = some (.cells #[.pointer (some ⟨b, 0, none⟩), v] 67 (0, 0)) ∧ w.ownsRow base 5 1 v l.length (bcells l)

/-- What a builder's writers may turn. -/
abbrev BldM (b base : Nat) : Nat → Prop := fun k => k = b ∨ base ≤ k

theorem BldW.bld {b base : Nat} {l : List UInt8} {w : World} (h : BldW b base l w) : Bld b base l w :=
  let ⟨h0, v, h1, h2⟩ := h; ⟨h0, _, v, .inr rfl, h1, h2⟩

theorem Bld.fresh {w : World} {b base : Nat} (h : w.heap[b]? = some (.cells #[.pointer none, .slice none 0 0] 67 (0, 0))) (hb : b < base) : Bld b base [] w :=
  ⟨hb, _, _, .inl rfl, h, World.ownsRow_nil _ _ _ _⟩

theorem Bld.kept {b base : Nat} {l : List UInt8} {w w' : World} {M : Nat → Prop} (h : Bld b base l w) (hf : Fr M w w') (hb : ¬ M b) (hr : ∀ k, base ≤ k → k < w.heap.size → ¬ M k) : Bld b base l w' := by
  obtain ⟨h0, p, v, hp, h1, h2⟩ := h
  refine ⟨h0, p, v, hp, hf.heap h1 hb, h2.1, ?_⟩
  rcases h2.2 with hn | ⟨g, cap, cur, hv, hg, hh, r⟩
  · exact .inl hn
  · exact .inr ⟨g, cap, cur, hv, hg, hf.heap hh (hr g hg (block_lt hh)), r⟩

theorem copyCheck_ok (b base : Nat) (l : List UInt8) (w : World) (h : Bld b base l w) :
    Calls Tryd.prog 44 #[.pointer (some ⟨b, 0, none⟩)] w fun e w' => e = .returned (.tuple #[]) ∧ BldW b base l w' ∧ Fr (fun k => k = b) w w' := by
  obtain ⟨h0, p, v, hp, h1, h2⟩ := h
  rcases hp with rfl | rfl
  · refine (copyCheck_fresh b w (by simp [World.cell?, h1]) (by simp [World.shape?, h1]) (by simp [World.frozen?, h1])).mono ?_
    rintro e w' ⟨rfl, rfl⟩
    refine ⟨rfl, ⟨h0, v, by simp [World.setCell, Array.getElem?_modify, h1], ?_⟩, (Fr.refl _ _).setCell _ _ fun _ => rfl⟩
    exact ownsRow_setCell_below h2 h0 _
  · refine (copyCheck_used b w (by simp [World.cell?, h1])).mono ?_
    rintro e w' ⟨rfl, rfl⟩
    exact ⟨rfl, ⟨h0, v, h1, h2⟩, Fr.refl _ _⟩

theorem ownBlock_lt {w : World} {base e size n b : Nat} {v : Value} {xs : List Value} (h : w.ownsRow base e size v n xs) (hb : b < base) : some b ≠ v.ownBlock := fun he => by
  have := (h.lt b he.symm).1; omega

set_option maxHeartbeats 2000000 in
set_option maxRecDepth 100000 in
/-- WriteByte at a builder of the call's own. -/
theorem WriteByte_ok (b base : Nat) (l : List UInt8) (c : UInt8) (w : World) (h : Bld b base l w) (hlen : l.length + 1 ≤ 140737488355328) (hBw : base ≤ w.heap.size) :
    Calls Tryd.prog 31 #[.pointer (some ⟨b, 0, none⟩), .int .u8 (c.toNat : Int)] w fun e w' => e = .returned .nilIface ∧ Bld b base (l ++ [c]) w' ∧ Fr (BldM b base) w w' := by
  obtain ⟨i0, hi, hz0, hz1, hz2⟩ := info_parts byteInfo
  go_enter Tryd.func31, Tryd.ntmps31
  go_wp2_with (go_at_call 44; refine (copyCheck_ok b base l _ h).mono ?_)
  rintro e w1 ⟨rfl, ⟨hb0, v, hbk, hown⟩, hf1⟩
  have c0 : w1.cell? ⟨b, 0, none⟩ = some (.pointer (some ⟨b, 0, none⟩)) := by rw [Lib.cell_of_heap hbk]; rfl
  have c1 : w1.cell? ⟨b, 1, none⟩ = some v := by rw [Lib.cell_of_heap hbk]; rfl
  go_wp2_with (at_builtin; refine wpList_append_own _ rfl _ _ 65 rfl base 5 i0 (.int .u8 0) 1 1 Tryd.underlying65 hi hz0 hz1 hz2 rfl (by decide) _ _ _ rfl (hown.alloc _) ⟨w1.heap.size, 0, none⟩ 1 1 [.int .u8 (c.toNat : Int)] rfl rfl ?c1 ?c2 ?c3 ?c4 ?c5 ?_)
  case c1 =>
    intro j u hj
    match j, hj with
    | 0, hj => simp at hj; subst hj; simp [Addr.add]
  case c2 => intro u hu; simp at hu; subst hu; rfl
  case c3 => unfold maxLen; omega
  case c4 => omega
  case c5 => have := hf1.size; simp; omega
  intro v' w2 hown' hgrow _
  have hlt : b < w1.heap.size := block_lt hbk
  have hne := ownBlock_lt hown hb0
  have hb2 : w2.heap[b]? = some (.cells #[.pointer (some ⟨b, 0, none⟩), v] 67 (0, 0)) := by
    rw [hgrow.block b (by simp; omega) hne, Lib.alloc_old w1 _ b hlt]
    exact hbk
  have d0 : w2.cell? ⟨b, 0, none⟩ = some (.pointer (some ⟨b, 0, none⟩)) := by rw [Lib.cell_of_heap hb2]; rfl
  have d1 : w2.cell? ⟨b, 1, none⟩ = some v := by rw [Lib.cell_of_heap hb2]; rfl
  have f1 : w2.frozen? ⟨b, 1, none⟩ = false := Lib.frozen_of_heap hb2 1
  obtain ⟨g, cap, rfl⟩ : ∃ g cap, v' = .slice (some ⟨g, 0, none⟩) (l.length + 1) cap := by
    rcases hown'.2 with ⟨_, h0⟩ | ⟨g, cap, cur, hv, _⟩
    · omega
    · exact ⟨g, cap, hv⟩
  go_wp2
  go_ret
  refine ⟨rfl, ⟨hb0, _, .slice (some ⟨g, 0, none⟩) (l.length + 1) cap, .inr rfl, heap_setCell hb2 _, ?_⟩, ?_⟩
  · have := ownsRow_setCell_below hown' (a := ⟨b, 1, none⟩) hb0 (.slice (some ⟨g, 0, none⟩) (l.length + 1) cap)
    rw [bcells_append, List.length_append]
    exact this
  · refine Fr.setCell (Fr.grown (Fr.alloc (hf1.mono fun k _ e => Or.inl e) _) hgrow ?_) _ _ fun _ => Or.inl rfl
    intro k hk _
    exact Or.inr (hown.lt k hk).1

set_option maxHeartbeats 2000000 in
set_option maxRecDepth 100000 in
/-- WriteString at a builder of the call's own. -/
theorem WriteString_ok (b base : Nat) (l m : List UInt8) (w : World) (h : Bld b base l w) (hlen : l.length + m.length ≤ 140737488355328) (hBw : base ≤ w.heap.size) :
    Calls Tryd.prog 32 #[.pointer (some ⟨b, 0, none⟩), .string ⟨m.toArray⟩] w fun e w' => (∃ n, e = .returned (.tuple #[.int .i64 n, .nilIface])) ∧ Bld b base (l ++ m) w' ∧ Fr (BldM b base) w w' := by
  obtain ⟨i0, hi, hz0, hz1, hz2⟩ := info_parts byteInfo
  obtain ⟨s, hs⟩ : ∃ s : ByteArray, s = ⟨m.toArray⟩ := ⟨_, rfl⟩
  have hsz : s.size = m.length := by rw [hs]; rfl
  have hsc : Lib.strCells s = bcells m := by rw [hs]; rfl
  rw [← hs]
  have Hs := Lib.hid hs
  have Hsz := Lib.hid hsz
  have Hsc := Lib.hid hsc
  clear hs hsz hsc
  go_enter Tryd.func32, Tryd.ntmps32
  go_wp2_with (go_at_call 44; refine (copyCheck_ok b base l _ h).mono ?_)
  rintro e w1 ⟨rfl, ⟨hb0, v, hbk, hown⟩, hf1⟩
  have c0 : w1.cell? ⟨b, 0, none⟩ = some (.pointer (some ⟨b, 0, none⟩)) := by rw [Lib.cell_of_heap hbk]; rfl
  have c1 : w1.cell? ⟨b, 1, none⟩ = some v := by rw [Lib.cell_of_heap hbk]; rfl
  go_wp2_with (at_builtin; refine Lib.wpList_append_own_string _ rfl _ _ 65 9 rfl base 5 i0 Tryd.underlying65 Tryd.underlying9 hi hz0 hz1 hz2 _ _ _ rfl hown s rfl ?c3 ?c4 ?c5 ?_)
  case c3 => have := Hsz.out; unfold maxLen; omega
  case c4 => have := Hsz.out; omega
  case c5 => have := hf1.size; omega
  intro v' w2 hown' hgrow _
  have hlt : b < w1.heap.size := block_lt hbk
  have hne := ownBlock_lt hown hb0
  have hb2 : w2.heap[b]? = some (.cells #[.pointer (some ⟨b, 0, none⟩), v] 67 (0, 0)) := by
    rw [hgrow.block b hlt hne]
    exact hbk
  have d0 : w2.cell? ⟨b, 0, none⟩ = some (.pointer (some ⟨b, 0, none⟩)) := by rw [Lib.cell_of_heap hb2]; rfl
  have d1 : w2.cell? ⟨b, 1, none⟩ = some v := by rw [Lib.cell_of_heap hb2]; rfl
  have f1 : w2.frozen? ⟨b, 1, none⟩ = false := Lib.frozen_of_heap hb2 1
  obtain ⟨ao, n', cap, rfl⟩ : ∃ ao n' cap, v' = .slice ao n' cap := by
    rcases hown'.2 with ⟨hv, _⟩ | ⟨g, cap, cur, hv, _⟩
    · exact ⟨_, _, _, hv⟩
    · exact ⟨_, _, _, hv⟩
  go_wp2
  go_ret2
  refine ⟨⟨_, rfl⟩, ⟨hb0, _, .slice ao n' cap, .inr rfl, heap_setCell hb2 _, ?_⟩, ?_⟩
  · have := ownsRow_setCell_below hown' (a := ⟨b, 1, none⟩) hb0 (.slice ao n' cap)
    rw [Hsz.out, Hsc.out] at this
    rw [bcells_append, List.length_append]
    exact this
  · refine Fr.setCell (Fr.grown (hf1.mono fun k _ e => Or.inl e) hgrow ?_) _ _ fun _ => Or.inl rfl
    intro k hk _
    exact Or.inr (hown.lt k hk).1

/-- String at a builder of the call's own: nothing of what lies outside the builder turns. -/
theorem String_ok (b base : Nat) (l : List UInt8) (w : World) (h : Bld b base l w) (hb : b ≤ w.heap.size) :
    Calls Tryd.prog 33 #[.pointer (some ⟨b, 0, none⟩)] w fun e w' => e = .returned (.string ⟨l.toArray⟩) ∧ Below b w w' := by
  obtain ⟨h0, p, v, hp, h1, h2⟩ := h
  have hB : Lib.BuilderAt 67 5 b b p (bcells l) w := ⟨Nat.le_refl _, v, h1, by
    refine ⟨by simp, ?_⟩
    rcases h2.2 with hn | ⟨g, cap, cur, hv, hg, r⟩
    · exact .inl (by simpa [Lib.byteCells_length] using hn)
    · exact .inr ⟨g, cap, cur, by simpa [Lib.byteCells_length] using hv, by omega, by simpa [Lib.byteCells_length] using r⟩, fun e => ownBlock_lt h2 h0 e.symm⟩
  exact Tryd.Builder_String_any b b l w (by rcases hp with rfl | rfl <;> first | exact .inl hB | exact .inr hB) hb
end Go.Proofs.YtdfkinkihkgdbaaDoor
