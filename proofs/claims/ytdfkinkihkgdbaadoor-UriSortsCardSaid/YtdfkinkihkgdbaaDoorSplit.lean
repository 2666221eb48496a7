/- strings.SplitSeq at a sign: the iterator's contract. -/
import Derived.Test.YtdfkinkihkgdbaaDoorRangeBox
import Derived.Test.YtdfkinkihkgdbaaDoorUriC
set_option linter.unusedVariables false
namespace Go.Proofs.YtdfkinkihkgdbaaDoor
open Go.RowKit Go.Shelf
/-- The parts of a text between the signs c. -/
def parts (c : UInt8) : List UInt8 → List (List UInt8)
  | [] => [[]]
  | x :: t => if x = c then [] :: parts c t else match parts c t with
    | [] => [[x]]
    | h :: r => (x :: h) :: r
theorem parts_cons (c x : UInt8) (t : List UInt8) : parts c (x :: t) = if x = c then [] :: parts c t else match parts c t with
    | [] => [[x]]
    | h :: r => (x :: h) :: r := rfl
theorem parts_not (c : UInt8) : ∀ l : List UInt8, (∀ x ∈ l, x ≠ c) → parts c l = [l]
  | [], _ => rfl
  | x :: t, h => by
    rw [parts_cons, if_neg (h x (List.mem_cons_self ..)), parts_not c t (fun y hy => h y (List.mem_cons_of_mem _ hy))]
theorem parts_at (c : UInt8) (t : List UInt8) : ∀ h : List UInt8, (∀ x ∈ h, x ≠ c) → parts c (h ++ c :: t) = h :: parts c t
  | [], _ => by show parts c (c :: t) = _; rw [parts_cons, if_pos rfl]
  | x :: h, hh => by
    rw [List.cons_append, parts_cons, if_neg (hh x (List.mem_cons_self ..)), parts_at c t h (fun y hy => hh y (List.mem_cons_of_mem _ hy))]
theorem strings_index (l : List UInt8) (c : UInt8) (w : World) :
    Calls Tryd.prog 47 #[str l, .string ⟨#[c]⟩] w fun e w' => e = .returned (.int .i64 (Lib.indexByte l c)) ∧ w' = w := by
  go_enter Tryd.func47, Tryd.ntmps47
  go_wp2_with (go_at_call 48; refine (Tryd.stringslite_Index_one _ _ _).mono ?_; rintro e w' ⟨rfl, rfl⟩; rw [show Lib.indexByte (⟨l.toArray⟩ : ByteArray).data.toList c = Lib.indexByte l c from rfl])
  go_ret
  exact ⟨rfl, rfl⟩

attribute [local go_sem] Oper.semAt_some
/-- How much of the text is left, read off the iterator's cell. -/
def leftAt (W : World) (b : Nat) : Nat := match W.cell? ⟨b, 0, none⟩ with
  | some (.string s) => s.size
  | _ => 0
theorem leftAt_of {W : World} {b : Nat} {r : List UInt8} (h : W.cell? ⟨b, 0, none⟩ = some (str r)) : leftAt W b = r.length := by unfold leftAt; rw [h]; rfl
/-- The three boxes of the iterator lie as they lay. -/
def KpS (b0 : Nat) (W W' : World) : Prop := W'.heap[b0]? = W.heap[b0]? ∧ W'.heap[b0 + 1]? = W.heap[b0 + 1]? ∧ W'.heap[b0 + 2]? = W.heap[b0 + 2]?
set_option maxRecDepth 100000 in
set_option maxHeartbeats 2000000 in
theorem split_in (n : Nat) (hn : 1 ≤ n) (b0 L : Nat) (s : List UInt8) (hL : s.length ≤ L) (hL2 : L ≤ 1000000000) (w : World) (h0s : Boxed w b0 9 (str s)) (h0p : Boxed w (b0 + 1) 9 (.string ⟨#[38]⟩)) (h0n : Boxed w (b0 + 2) 3 (.int .i64 0)) :
    SeqBox Fence.wide n Tryd.prog 45 #[.pointer (some ⟨b0 + 1, 0, none⟩), .pointer (some ⟨b0, 0, none⟩), .pointer (some ⟨b0 + 2, 0, none⟩)] (fun x : List UInt8 => #[str x]) (KpS b0) (fun x => x.length ≤ L) (parts 38 s) b0 w := by
  intro l J Jx W hW hJ hJx hY hJ0
  have hBs : Boxed W b0 9 (str s) := (hW.block _ h0s.lt).trans h0s
  have hBp : Boxed W (b0 + 1) 9 (.string ⟨#[38]⟩) := (hW.block _ h0p.lt).trans h0p
  have hBn : Boxed W (b0 + 2) 3 (.int .i64 0) := (hW.block _ h0n.lt).trans h0n
  refine callsIn_of_wp Tryd.func45 rfl trivial ?_ rfl
  simp only [Tryd.ntmps45, List.size_toArray, List.length_cons, List.length_nil, Nat.reduceAdd, Nat.reduceSub, Array.replicate_succ, Array.replicate_zero, List.push_toArray, List.append_toArray, List.nil_append, List.cons_append]
  have cp := hBp.cell
  gi_wp2
  clear cp
  gi_loopw [7] (fun p wr => ∃ (pre : List (List UInt8)) (r : List UInt8), r.length ≤ s.length ∧ parts 38 s = pre ++ parts 38 r ∧ Boxed wr b0 9 (str r) ∧ Boxed wr (b0 + 1) 9 (.string ⟨#[38]⟩) ∧ Boxed wr (b0 + 2) 3 (.int .i64 0) ∧ J pre wr)
    (fun p wr => leftAt wr b0)
  case atStart => exact ⟨[], s, Nat.le_refl _, rfl, hBs, hBp, hBn, hJ0⟩
  case round =>
    obtain ⟨pre, r, hrl, hps, bs, bp, bn, hJr⟩ := hrel
    have cs := bs.cell
    have cp := bp.cell
    have cn := bn.cell
    have fs := bs.frozen
    rcases idx_cut 38 r with ⟨h1, h2⟩ | ⟨h, t, rfl, h2, h3⟩
    · have hq := hps.trans (by rw [parts_not 38 r h2])
      obtain ⟨fn, tmps, assign, body, hy, hR⟩ := hY pre r wr hJr (by omega)
      clear hY hps h2
      gi_wp2_with (refine ⟨trivial, ?_⟩; gi_at_call 47; refine (callsIn_wide.2 (strings_index r 38 wr)).mono ?_; rintro e w' ⟨rfl, rfl⟩; rw [h1])
      refine hR.mono ?_
      rintro e W3 (⟨rfl, hJ3, hk3⟩ | ⟨rfl, hJx3⟩)
      · gi_wp2
        go_end0
        exact ⟨⟨_, rfl⟩, .inl (by rw [hq]; exact hJ3)⟩
      · gi_wp2
        go_end0
        exact ⟨⟨_, rfl⟩, .inr ⟨pre ++ [r], by rw [hq]; exact List.prefix_refl _, hJx3⟩⟩
    · have hq := hps.trans (by rw [parts_at 38 t h h2])
      rw [List.length_append, List.length_cons] at hrl
      obtain ⟨sb, hsb⟩ : ∃ sb : ByteArray, sb = ⟨(h ++ 38 :: t).toArray⟩ := ⟨_, rfl⟩
      have hsz : sb.size = h.length + 1 + t.length := by rw [hsb]; show (h ++ 38 :: t).length = _; simp; omega
      have e1 : sb.extract 0 h.length = ⟨h.toArray⟩ := by rw [hsb, ext_list]; simp
      have e2 : sb.extract (h.length + 1) sb.size = ⟨t.toArray⟩ := by
        rw [hsb, ext_list]
        congr 2
        rw [List.take_of_length_le (by simp [ByteArray.size]; omega)]
        simp
      rw [hsz] at e2
      obtain ⟨fn, tmps, assign, body, hy, hR⟩ := hY pre h wr hJr (by omega)
      have bs' : Boxed wr b0 9 (.string sb) := by rw [hsb]; exact bs
      have lw := leftAt_of bs.cell
      have hidx : ∀ w, Calls Tryd.prog 47 #[.string sb, .string ⟨#[38]⟩] w fun e w' => e = .returned (.int .i64 (h.length : Int)) ∧ w' = w := fun w => by
        rw [hsb, ← h3]; exact strings_index _ _ _
      clear cs bs hsb h3 hY hps h2
      have cs := bs'.cell
      have b1 : (h.length : Int) ≤ (sb.size : Int) := by omega
      have b2 : (h.length : Int) + 1 ≤ (sb.size : Int) := by omega
      gi_wp2_with (refine ⟨trivial, ?_⟩; gi_at_call 47; refine (callsIn_wide.2 (hidx wr)).mono ?_; rintro e w' ⟨rfl, hw'⟩; subst hw')
      refine hR.mono ?_
      rintro e W3 (⟨rfl, hJ3, hk3⟩ | ⟨rfl, hJx3⟩)
      · have ts : Boxed W3 b0 9 (.string sb) := hk3.1.trans bs'
        have tp : Boxed W3 (b0 + 1) 9 (.string ⟨#[38]⟩) := hk3.2.1.trans bp
        have tn : Boxed W3 (b0 + 2) 3 (.int .i64 0) := hk3.2.2.trans bn
        have cs3 := ts.cell
        have cp3 := tp.cell
        have cn3 := tn.cell
        have fs3 := ts.frozen
        gi_wp2
        go_roundw
        case rel =>
          exact ⟨pre ++ [h], t, by omega, by rw [hq]; simp, ts.set _, tp.kept (grownBy_setCell' _ _ _) (by intro e; injection e with e; omega), tn.kept (grownBy_setCell' _ _ _) (by intro e; injection e with e; omega), hJ _ _ _ _ hJ3 (grownBy_setCell' _ _ _) (fun r e => by cases e; rfl)⟩
        case measure => rw [leftAt_of (ts.set (str t)).cell, lw]; simp; omega
      · gi_wp2
        refine bodyPost_ret (results_none rfl _ _ _) rfl ?_
        exact ⟨⟨_, rfl⟩, .inr ⟨pre ++ [h], by rw [hq]; exact ⟨parts 38 t, by simp⟩, hJx3⟩⟩
end Go.Proofs.YtdfkinkihkgdbaaDoor
