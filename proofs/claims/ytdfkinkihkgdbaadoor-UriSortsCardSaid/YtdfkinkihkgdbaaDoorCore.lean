/- Words of this seat's proofs that speak of no function: what is kept of a memory, what a slice reads as. -/
import Derived.Lib.Builder
import Derived.Lib.Strings
import Derived.Lib.Hide
import Derived.Lib.ConvBytes
import Derived.Lib.AppendStr
import Derived.Lib.UnsafeStr
import Derived.Deep.QuietTactic
import Derived.BigQuiet
import Derived.Laws.BytesArg
import Derived.WalkKit
set_option linter.unusedVariables false
namespace Go.Proofs.YtdfkinkihkgdbaaDoor
open Go.RowKit

/-- Of w nothing has turned in w' but blocks of which M holds; the streams are as they were. -/
structure Fr (M : Nat → Prop) (w w' : World) : Prop where
  os : w'.os = w.os
  tape : w'.tape = w.tape
  output : w'.output = w.output
  size : w.heap.size ≤ w'.heap.size
  keep : ∀ k, k < w.heap.size → ¬ M k → w'.heap[k]? = w.heap[k]?

namespace Fr
variable {M N : Nat → Prop} {w w' w'' : World}
theorem refl (M : Nat → Prop) (w : World) : Fr M w w := ⟨rfl, rfl, rfl, Nat.le_refl _, fun _ _ _ => rfl⟩
theorem trans (h : Fr M w w') (k : Fr M w' w'') : Fr M w w'' :=
  ⟨k.os.trans h.os, k.tape.trans h.tape, k.output.trans h.output, Nat.le_trans h.size k.size, fun i hi hM => (k.keep i (Nat.lt_of_lt_of_le hi h.size) hM).trans (h.keep i hi hM)⟩
theorem mono (h : Fr M w w') (hm : ∀ k, k < w.heap.size → M k → N k) : Fr N w w' :=
  ⟨h.os, h.tape, h.output, h.size, fun i hi hN => h.keep i hi fun hM => hN (hm i hi hM)⟩
/-- A step behind another one: what it may turn is among N where it was there. -/
theorem then_ (h : Fr N w w') (k : Fr M w' w'') (hm : ∀ k, k < w.heap.size → M k → N k) : Fr N w w'' :=
  ⟨k.os.trans h.os, k.tape.trans h.tape, k.output.trans h.output, Nat.le_trans h.size k.size, fun i hi hN => (k.keep i (Nat.lt_of_lt_of_le hi h.size) fun hM => hN (hm i hi hM)).trans (h.keep i hi hN)⟩
theorem alloc (h : Fr M w w') (o : Obj) : Fr M w (w'.alloc o) :=
  ⟨h.os, h.tape, h.output, Nat.le_trans h.size (by simp), fun k hk hM => (Below.heap_alloc w' o k (Nat.lt_of_lt_of_le hk h.size)).trans (h.keep k hk hM)⟩
theorem drew (h : Fr M w w') : Fr M w w'.drew := ⟨h.os, h.tape, h.output, h.size, h.keep⟩
theorem drewN (h : Fr M w w') (n : Nat) : Fr M w (w'.drewN n) := ⟨h.os, h.tape, h.output, h.size, h.keep⟩
theorem setCell (h : Fr M w w') (a : Addr) (v : Value) (hm : a.block < w.heap.size → M a.block) : Fr M w (w'.setCell a v) :=
  ⟨h.os, h.tape, h.output, Nat.le_trans h.size (by simp), fun k hk hM => (Below.heap_setCell w' a v k (fun e => hM (e ▸ hm (e ▸ hk)))).trans (h.keep k hk hM)⟩
theorem grown {row : Option Nat} (h : Fr M w w') (g : w'.grownBy w'' row) (hm : ∀ k, row = some k → k < w.heap.size → M k) : Fr M w w'' :=
  ⟨g.os.trans h.os, g.tape.trans h.tape, g.output.trans h.output, Nat.le_trans h.size g.size, fun k hk hM => (g.block k (Nat.lt_of_lt_of_le hk h.size) (fun e => hM (hm k e.symm hk))).trans (h.keep k hk hM)⟩
theorem of_below {B : Nat} (h : Below B w w') : Fr (fun k => B ≤ k) w w' :=
  ⟨h.os, h.tape, h.output, h.size, fun k _ hM => h.block k (by omega)⟩
theorem of_below0 (h : Below w.heap.size w w') : Fr (fun _ => False) w w' :=
  ⟨h.os, h.tape, h.output, h.size, fun k hk _ => h.block k hk⟩
theorem below (h : Fr M w w') {B : Nat} (hB : B ≤ w.heap.size) (hm : ∀ k, k < B → ¬ M k) : Below B w w' :=
  ⟨h.os, h.tape, h.output, h.size, fun k hk => h.keep k (by omega) (hm k hk)⟩
theorem heap (h : Fr M w w') {k : Nat} {o : Obj} (hk : w.heap[k]? = some o) (hM : ¬ M k) : w'.heap[k]? = some o :=
  (h.keep k (Array.getElem?_eq_some_iff.1 hk).1 hM).trans hk
theorem cell (h : Fr M w w') {a : Addr} {v : Value} (hc : w.cell? a = some v) (hM : ¬ M a.block) : w'.cell? a = some v :=
  (World.cell?_of_block (h.keep a.block (World.block_lt_of_cell? w a hc) hM)).trans hc
end Fr

/-- The cells of a text. -/
abbrev bcells (l : List UInt8) : List Value := Lib.byteCells l

theorem strCells_mk (l : List UInt8) : Lib.strCells ⟨l.toArray⟩ = bcells l := rfl

theorem bcells_append (l m : List UInt8) : bcells (l ++ m) = bcells l ++ bcells m := by simp [Lib.byteCells]

theorem block_lt {w : World} {k : Nat} {o : Obj} (h : w.heap[k]? = some o) : k < w.heap.size := (Array.getElem?_eq_some_iff.1 h).1

theorem heap_setCell {w : World} {b j : Nat} {cs : Array Value} {T : TypeId} {fr : Nat × Nat} (h : w.heap[b]? = some (.cells cs T fr)) (u : Value) :
    (w.setCell ⟨b, j, none⟩ u).heap[b]? = some (.cells (cs.setIfInBounds j u) T fr) := by simp [World.setCell, Array.getElem?_modify, h]

/-- What '[]byte(s)' lays: a new block with the bytes. -/
theorem Fr.bytesWorld {M : Nat → Prop} {w w' : World} (h : Fr M w w') (e : TypeId) (s : ByteArray) : Fr M w (Lib.bytesWorld w' e s) :=
  ⟨h.os, h.tape, h.output, Nat.le_trans h.size (by rw [Lib.bytesWorld_size]; omega), fun k hk hM => (Lib.bytesWorld_at_old w' e s k (Nat.lt_of_lt_of_le hk h.size)).trans (h.keep k hk hM)⟩

theorem addr_add0 (g j : Nat) : (⟨g, 0, none⟩ : Addr).add j = ⟨g, j, none⟩ := by unfold Addr.add; split <;> simp_all

theorem own_conv {P : Program} {w : World} {base : Nat} {src dst e : TypeId} {v : Value} {l : List UInt8} (hs : P.underlying src = some (.slice e)) (he : P.underlying e = some (.int .u8)) (hd : P.underlying dst = some .string)
    (h : w.ownsRow base e 1 v l.length (bcells l)) : (convert src dst v).run P w = .ok (.string ⟨l.toArray⟩) w := by
  have hso : strOfNums (l.map fun c => (c.toNat : Int)) = ⟨l.toArray⟩ := by
    simp [strOfNums, Function.comp_def]
  rcases h.2 with ⟨rfl, h0⟩ | ⟨g, cap, cur, rfl, _⟩
  · obtain rfl : l = [] := List.eq_nil_of_length_eq_zero h0
    exact run_convert_bytes_nil w src e hs he 0 0 dst hd
  · rw [← hso]
    refine run_convert_bytes_arg w src e hs he g 0 l.length cap _ (by simp) (fun i hi => ?_) dst hd
    have hc := h.cells (g := g) rfl i (.int .u8 ((l.map fun c => (c.toNat : Int)).getD i 0)) (by simp [Lib.byteCells, List.getElem?_eq_getElem hi])
    rw [addr_add0] at hc
    simpa using hc

section
variable {P : Program} {ops : Array Oper} {rest : List Oper} {o : Oper} {a : Act} {Q : Exit → Act → World → Prop}

/-- append(s, x1, .., xm): the box of the new elements was laid just ahead. -/
theorem app_lit {W : World} {base n size bytes : Nat} {v : Value} {xs : List Value} {t e : TypeId} {z : Value} {s x : Operand} {c : Nat} (hown : W.ownsRow base e size v n xs) (m : Nat) (news : List Value)
    (ht : P.underlying t = some (.slice e)) (hinfo : (P.info? e).map (fun i => (i.zero, i.size, i.bytes)) = some (some z, size, bytes)) (hz : z.cells.size = size) (hsz : 0 < size)
    (hl : news.length = m * size) (h1 : ∀ u ∈ news, u.oneCell' = true) (h63 : n + m ≤ 140737488355328) (hbytes : (n + m) * bytes ≤ 140737488355328) (hbase : base ≤ W.heap.size)
    (hgd : o.guard = none) (ho : o.op = .call { callee := .builtin .append, args := #[s, x], argTypes := #[t, t] }) (hs : a.eval s = v) (hx : a.eval x = .slice (some ⟨W.heap.size, 0, none⟩) m c)
    (h : ∀ v' w', w'.ownsRow base e size v' (n + m) (xs ++ news) → Fr (fun k => base ≤ k) W w' → wpList P ops Q rest (a.put o.dst v') w') :
    wpList P ops Q (o :: rest) a (W.alloc (.cells news.toArray e)) := by
  obtain ⟨i0, hi, hz0, hz1, hz2⟩ := info_parts hinfo
  refine wpList_append_own _ hgd s x t ho base e i0 z size bytes ht hi hz0 hz1 hz2 hz hsz v n xs hs (hown.alloc _) ⟨W.heap.size, 0, none⟩ m c news hx hl ?_ h1 (by unfold maxLen; omega) hbytes (by simp; omega) fun v' w' h2 h3 _ => h v' w' h2 ?_
  · intro j u hj
    rw [addr_add0]
    simpa using hj
  · exact Fr.grown ((Fr.refl _ _).alloc _) h3 fun k hk _ => (hown.lt k hk).1

/-- append as one step of a region that draws its order. -/
theorem step_app {K : Act → World → Prop} {E : Prop} {W : World} {base n size bytes : Nat} {v : Value} {xs : List Value} {t e : TypeId} {z : Value} {s x : Operand} {c : Nat} {ad : Addr} (hown : W.ownsRow base e size v n xs) (m : Nat) (news : List Value)
    (ht : P.underlying t = some (.slice e)) (hinfo : (P.info? e).map (fun i => (i.zero, i.size, i.bytes)) = some (some z, size, bytes)) (hz : z.cells.size = size) (hsz : 0 < size)
    (hl : news.length = m * size) (h1 : ∀ u ∈ news, u.oneCell' = true) (h63 : n + m ≤ 140737488355328) (hbytes : (n + m) * bytes ≤ 140737488355328) (hbase : base ≤ W.heap.size)
    (hgd : o.guard = none) (ho : o.op = .call { callee := .builtin .append, args := #[s, x], argTypes := #[t, t] }) (hs : a.eval s = v) (hx : a.eval x = .slice (some ad) m c) (hnews : ∀ j u, news[j]? = some u → W.cell? (ad.add j) = some u)
    (h : ∀ v' w', w'.ownsRow base e size v' (n + m) (xs ++ news) → Fr (fun k => base ≤ k) W w' → K (a.put o.dst v') w') :
    if Region.wanted o (yielded ops a.tmps) = true then Oper.wp P o a W K Q else E := by
  obtain ⟨i0, hi, hz0, hz1, hz2⟩ := info_parts hinfo
  rw [if_pos (by simp [Region.wanted, hgd])]
  exact wp_append_own _ s x t ho base e i0 z size bytes ht hi hz0 hz1 hz2 hz hsz v n xs hs hown ad m c news hx hl hnews h1 (by unfold maxLen; omega) hbytes hbase fun v' w' h2 h3 _ => h v' w' h2 (Fr.grown (Fr.refl _ _) h3 fun k hk _ => (hown.lt k hk).1)

theorem news_alloc (W : World) (news : List Value) (e : TypeId) : ∀ j u, news[j]? = some u → (W.alloc (.cells news.toArray e)).cell? ((⟨W.heap.size, 0, none⟩ : Addr).add j) = some u := by
  intro j u hj
  rw [addr_add0]
  simpa using hj

theorem one_cell1 {u : Value} (h : u.oneCell' = true) : ∀ x ∈ [u], x.oneCell' = true := by simpa using h
end

end Go.Proofs.YtdfkinkihkgdbaaDoor
