/- Texts of this proof, laid together: Sha, Core, R256Body, QuietTail, Own, ShaA, ShaB0, DkA, DkB, ShaB, ShaC0, ShaC, ShaD, ShaE, ShaF, Blk, CnA, Build, CnB, DkC, HeldG, DkD, CnC, DkE, DkF, DkG, CnD. -/
import Derived.WalkKit
import Derived.Lib.Builder
import Derived.Lib.Strings
import Derived.Lib.Hide
import Derived.Lib.ConvBytes
import Derived.Lib.AppendStr
import Derived.Lib.UnsafeStr
import Derived.Deep.QuietTactic
import Derived.BigQuiet
import Derived.Laws.BytesArg
import Derived.KernelRfl
import Derived.StillTail
import Derived.Lib.AppendZeros
import Derived.Deep.MidRow
import Derived.StillTailTactics
import Derived.IntWalk
import Derived.Laws.LoneSync
import Derived.Maps.AppendAt
import Derived.RegionCalls
import Derived.Deep.RegionHeld3
import Derived.Laws.NewBlocks
import Derived.Laws.MakeOwn
import Derived.Laws.CopyOwn
import Derived.WalkSpells
import Derived.OrdersHeld
import Derived.Test.YtnbonhinpepgoaaGreatProg
set_option linter.unusedVariables false
set_option linter.unusedSimpArgs false
section
set_option linter.unusedVariables false
namespace Sha
open Go
theorem ofInt_nat (n a : Nat) : BitVec.ofInt n (a : Int) = BitVec.ofNat n a := by
  apply BitVec.eq_of_toNat_eq
  simp
theorem wrap_nat {k : IntKind} (hs : k.signed = false) {a : Nat} (h : a < 2 ^ k.bits) : k.wrap (a : Int) = a := by
  unfold IntKind.wrap
  rw [hs]
  simp only [Bool.false_and, Bool.false_eq_true, if_false]
  have : ((2 : Int) ^ k.bits) = ((2 ^ k.bits : Nat) : Int) := by norm_cast
  rw [this]
  exact Int.emod_eq_of_lt (by omega) (by omega)
theorem xor_nat {k : IntKind} (hs : k.signed = false) {a b : Nat} (ha : a < 2 ^ k.bits) (hb : b < 2 ^ k.bits) : Go.bits .xor k (a : Int) (b : Int) = ((a ^^^ b : Nat) : Int) := by
  unfold Go.bits
  simp only [ofInt_nat, BitVec.toNat_xor, BitVec.toNat_ofNat, Nat.mod_eq_of_lt ha, Nat.mod_eq_of_lt hb]
  exact wrap_nat hs (Nat.xor_lt_two_pow ha hb)
theorem and_nat {k : IntKind} (hs : k.signed = false) {a b : Nat} (ha : a < 2 ^ k.bits) (hb : b < 2 ^ k.bits) : Go.bits .and k (a : Int) (b : Int) = ((a &&& b : Nat) : Int) := by
  unfold Go.bits
  simp only [ofInt_nat, BitVec.toNat_and, BitVec.toNat_ofNat, Nat.mod_eq_of_lt ha, Nat.mod_eq_of_lt hb]
  exact wrap_nat hs (Nat.and_lt_two_pow a hb)
theorem or_nat {k : IntKind} (hs : k.signed = false) {a b : Nat} (ha : a < 2 ^ k.bits) (hb : b < 2 ^ k.bits) : Go.bits .or k (a : Int) (b : Int) = ((a ||| b : Nat) : Int) := by
  unfold Go.bits
  simp only [ofInt_nat, BitVec.toNat_or, BitVec.toNat_ofNat, Nat.mod_eq_of_lt ha, Nat.mod_eq_of_lt hb]
  exact wrap_nat hs (Nat.or_lt_two_pow ha hb)
abbrev M : Nat := 4294967296
def rot (x s : Nat) : Nat := (x * 2 ^ s) % M ||| x / 2 ^ (32 - s)
theorem rot_lt {x s : Nat} (h : x < M) : rot x s < M := by
  unfold rot
  refine Nat.or_lt_two_pow (n := 32) (Nat.mod_lt _ (by decide)) (Nat.lt_of_le_of_lt (Nat.div_le_self _ _) h)
def word (b : List Nat) (i : Nat) : Nat := (((b.getD (4 * i) 0 * 16777216) ||| (b.getD (4 * i + 1) 0 * 65536)) ||| (b.getD (4 * i + 2) 0 * 256)) ||| b.getD (4 * i + 3) 0
def s0 (x : Nat) : Nat := (rot x 25 ^^^ rot x 14) ^^^ x / 8
def s1 (x : Nat) : Nat := (rot x 15 ^^^ rot x 13) ^^^ x / 1024
def nextW (b : List Nat) (w : List Nat) (i : Nat) : Nat :=
  if i < 16 then word b i else ((((w.getD (i - 16) 0 + s0 (w.getD (i - 15) 0)) % M) + w.getD (i - 7) 0) % M + s1 (w.getD (i - 2) 0)) % M
def sched (b : List Nat) : Nat → List Nat
  | 0 => []
  | n + 1 => sched b n ++ [nextW b (sched b n) n]
def K : List Nat := [1116352408, 1899447441, 3049323471, 3921009573, 961987163, 1508970993, 2453635748, 2870763221, 3624381080, 310598401, 607225278, 1426881987, 1925078388, 2162078206, 2614888103, 3248222580, 3835390401, 4022224774, 264347078, 604807628, 770255983, 1249150122, 1555081692, 1996064986, 2554220882, 2821834349, 2952996808, 3210313671, 3336571891, 3584528711, 113926993, 338241895, 666307205, 773529912, 1294757372, 1396182291, 1695183700, 1986661051, 2177026350, 2456956037, 2730485921, 2820302411, 3259730800, 3345764771, 3516065817, 3600352804, 4094571909, 275423344, 430227734, 506948616, 659060556, 883997877, 958139571, 1322822218, 1537002063, 1747873779, 1955562222, 2024104815, 2227730452, 2361852424, 2428436474, 2756734187, 3204031479, 3329325298]
def S1 (e : Nat) : Nat := (rot e 26 ^^^ rot e 21) ^^^ rot e 7
def S0 (a : Nat) : Nat := (rot a 30 ^^^ rot a 19) ^^^ rot a 10
structure V where
  a : Nat
  b : Nat
  c : Nat
  d : Nat
  e : Nat
  f : Nat
  g : Nat
  h : Nat
def V.t (v : V) (k x : Nat) : Nat := ((((v.h + S1 v.e) % M + (v.g ^^^ (v.e &&& (v.f ^^^ v.g)))) % M + k) % M + x) % M
def V.u (v : V) : Nat := (S0 v.a + ((v.a &&& v.b) ||| (v.c &&& (v.a ||| v.b)))) % M
def V.next (v : V) (k x : Nat) : V := ⟨(v.t k x + v.u) % M, v.a, v.b, v.c, (v.d + v.t k x) % M, v.e, v.f, v.g⟩
def rounds (w : List Nat) (v : V) : Nat → V
  | 0 => v
  | n + 1 => (rounds w v n).next (K.getD n 0) (w.getD n 0)
def V.add (v u : V) : V := ⟨(v.a + u.a) % M, (v.b + u.b) % M, (v.c + u.c) % M, (v.d + u.d) % M, (v.e + u.e) % M, (v.f + u.f) % M, (v.g + u.g) % M, (v.h + u.h) % M⟩
def block (v : V) (b : List Nat) : V := v.add (rounds (sched b 64) v 64)
def V0 : V := ⟨1779033703, 3144134277, 1013904242, 2773480762, 1359893119, 2600822924, 528734635, 1541459225⟩
end Sha
end
section
set_option linter.unusedVariables false
namespace Go.Proofs.YtnbonhinpepgoaaGreat
open Go.RowKit
structure Fr (M : Nat → Prop) (w w' : World) : Prop where
  os : w'.os = w.os
  tape : w'.tape = w.tape
  output : w'.output = w.output
  size : w.heap.size ≤ w'.heap.size
  keep : ∀ k, k < w.heap.size → ¬ M k → w'.heap[k]? = w.heap[k]?
namespace Fr
variable {M N : Nat → Prop} {w w' w'' : World}
theorem refl (M : Nat → Prop) (w : World) : Fr M w w := ⟨rfl, rfl, rfl, Nat.le_refl _, fun _ _ _ => rfl⟩
theorem trans (h : Fr M w w') (k : Fr M w' w'') : Fr M w w'' :=
  ⟨k.os.trans h.os, k.tape.trans h.tape, k.output.trans h.output, Nat.le_trans h.size k.size, fun i hi hM => (k.keep i (Nat.lt_of_lt_of_le hi h.size) hM).trans (h.keep i hi hM)⟩
theorem mono (h : Fr M w w') (hm : ∀ k, k < w.heap.size → M k → N k) : Fr N w w' :=
  ⟨h.os, h.tape, h.output, h.size, fun i hi hN => h.keep i hi fun hM => hN (hm i hi hM)⟩
theorem then_ (h : Fr N w w') (k : Fr M w' w'') (hm : ∀ k, k < w.heap.size → M k → N k) : Fr N w w'' :=
  ⟨k.os.trans h.os, k.tape.trans h.tape, k.output.trans h.output, Nat.le_trans h.size k.size, fun i hi hN => (k.keep i (Nat.lt_of_lt_of_le hi h.size) fun hM => hN (hm i hi hM)).trans (h.keep i hi hN)⟩
theorem alloc (h : Fr M w w') (o : Obj) : Fr M w (w'.alloc o) :=
  ⟨h.os, h.tape, h.output, Nat.le_trans h.size (by simp), fun k hk hM => (Below.heap_alloc w' o k (Nat.lt_of_lt_of_le hk h.size)).trans (h.keep k hk hM)⟩
theorem drew (h : Fr M w w') : Fr M w w'.drew := ⟨h.os, h.tape, h.output, h.size, h.keep⟩
theorem drewN (h : Fr M w w') (n : Nat) : Fr M w (w'.drewN n) := ⟨h.os, h.tape, h.output, h.size, h.keep⟩
theorem setCell (h : Fr M w w') (a : Addr) (v : Value) (hm : a.block < w.heap.size → M a.block) : Fr M w (w'.setCell a v) :=
  ⟨h.os, h.tape, h.output, Nat.le_trans h.size (by simp), fun k hk hM => (Below.heap_setCell w' a v k (fun e => hM (e ▸ hm (e ▸ hk)))).trans (h.keep k hk hM)⟩
theorem grown {row : Option Nat} (h : Fr M w w') (g : w'.grownBy w'' row) (hm : ∀ k, row = some k → k < w.heap.size → M k) : Fr M w w'' :=
  ⟨g.os.trans h.os, g.tape.trans h.tape, g.output.trans h.output, Nat.le_trans h.size g.size, fun k hk hM => (g.block k (Nat.lt_of_lt_of_le hk h.size) (fun e => hM (hm k e.symm hk))).trans (h.keep k hk hM)⟩
theorem of_below0 (h : Below w.heap.size w w') : Fr (fun _ => False) w w' :=
  ⟨h.os, h.tape, h.output, h.size, fun k hk _ => h.block k hk⟩
theorem below (h : Fr M w w') {B : Nat} (hB : B ≤ w.heap.size) (hm : ∀ k, k < B → ¬ M k) : Below B w w' :=
  ⟨h.os, h.tape, h.output, h.size, fun k hk => h.keep k (by omega) (hm k hk)⟩
theorem heap (h : Fr M w w') {k : Nat} {o : Obj} (hk : w.heap[k]? = some o) (hM : ¬ M k) : w'.heap[k]? = some o :=
  (h.keep k (Array.getElem?_eq_some_iff.1 hk).1 hM).trans hk
theorem cell (h : Fr M w w') {a : Addr} {v : Value} (hc : w.cell? a = some v) (hM : ¬ M a.block) : w'.cell? a = some v :=
  (World.cell?_of_block (h.keep a.block (World.block_lt_of_cell? w a hc) hM)).trans hc
end Fr
abbrev bcells (l : List UInt8) : List Value := Lib.byteCells l
theorem block_lt {w : World} {k : Nat} {o : Obj} (h : w.heap[k]? = some o) : k < w.heap.size := (Array.getElem?_eq_some_iff.1 h).1
theorem heap_setCell {w : World} {b j : Nat} {cs : Array Value} {T : TypeId} {fr : Nat × Nat} (h : w.heap[b]? = some (.cells cs T fr)) (u : Value) :
    (w.setCell ⟨b, j, none⟩ u).heap[b]? = some (.cells (cs.setIfInBounds j u) T fr) := by simp [World.setCell, Array.getElem?_modify, h]
theorem addr_add0 (g j : Nat) : (⟨g, 0, none⟩ : Addr).add j = ⟨g, j, none⟩ := by unfold Addr.add; split <;> simp_all
theorem own_conv {P : Program} {w : World} {base : Nat} {src dst e : TypeId} {v : Value} {l : List UInt8} (hs : P.underlying src = some (.slice e)) (he : P.underlying e = some (.int .u8)) (hd : P.underlying dst = some .string)
    (h : w.ownsRow base e 1 v l.length (bcells l)) : (convert src dst v).run P w = .ok (.string ⟨l.toArray⟩) w := by
  have hso : strOfNums (l.map fun c => (c.toNat : Int)) = ⟨l.toArray⟩ := by
    simp [strOfNums, Function.comp_def]
  rcases h.2 with ⟨rfl, h0⟩ | ⟨g, cap, cur, rfl, _⟩
  · obtain rfl : l = [] := List.eq_nil_of_length_eq_zero h0
    exact run_convert_bytes_nil w src e hs he 0 0 dst hd
  · rw [← hso]
    refine run_convert_bytes_arg w src e hs he g 0 l.length cap _ (by simp) (fun i hi => ?_) dst hd
    have hc := h.cells (g := g) rfl i (.int .u8 ((l.map fun c => (c.toNat : Int)).getD i 0)) (by simp [Lib.byteCells, List.getElem?_eq_getElem hi])
    rw [addr_add0] at hc
    simpa using hc
section
variable {P : Program} {ops : Array Oper} {rest : List Oper} {o : Oper} {a : Act} {Q : Exit → Act → World → Prop}
theorem app_lit {W : World} {base n size bytes : Nat} {v : Value} {xs : List Value} {t e : TypeId} {z : Value} {s x : Operand} {c : Nat} (hown : W.ownsRow base e size v n xs) (m : Nat) (news : List Value)
    (ht : P.underlying t = some (.slice e)) (hinfo : (P.info? e).map (fun i => (i.zero, i.size, i.bytes)) = some (some z, size, bytes)) (hz : z.cells.size = size) (hsz : 0 < size)
    (hl : news.length = m * size) (h1 : ∀ u ∈ news, u.oneCell' = true) (h63 : n + m ≤ 140737488355328) (hbytes : (n + m) * bytes ≤ 140737488355328) (hbase : base ≤ W.heap.size)
    (hgd : o.guard = none) (ho : o.op = .call { callee := .builtin .append, args := #[s, x], argTypes := #[t, t] }) (hs : a.eval s = v) (hx : a.eval x = .slice (some ⟨W.heap.size, 0, none⟩) m c)
    (h : ∀ v' w', w'.ownsRow base e size v' (n + m) (xs ++ news) → Fr (fun k => base ≤ k) W w' → wpList P ops Q rest (a.put o.dst v') w') :
    wpList P ops Q (o :: rest) a (W.alloc (.cells news.toArray e)) := by
  obtain ⟨i0, hi, hz0, hz1, hz2⟩ := info_parts hinfo
  refine wpList_append_own _ hgd s x t ho base e i0 z size bytes ht hi hz0 hz1 hz2 hz hsz v n xs hs (hown.alloc _) ⟨W.heap.size, 0, none⟩ m c news hx hl ?_ h1 (by unfold maxLen; omega) hbytes (by simp; omega) fun v' w' h2 h3 _ => h v' w' h2 ?_
  · intro j u hj
    rw [addr_add0]
    simpa using hj
  · exact Fr.grown ((Fr.refl _ _).alloc _) h3 fun k hk _ => (hown.lt k hk).1
theorem news_alloc (W : World) (news : List Value) (e : TypeId) : ∀ j u, news[j]? = some u → (W.alloc (.cells news.toArray e)).cell? ((⟨W.heap.size, 0, none⟩ : Addr).add j) = some u := by
  intro j u hj
  rw [addr_add0]
  simpa using hj
end
end Go.Proofs.YtnbonhinpepgoaaGreat
end
section
namespace Go.Proofs.YtnbonhinpepgoaaGreat
set_option maxRecDepth 100000
def R256K0 : Array (Nat × Go.Operand) := #[(0, Go.Operand.const (Go.Value.int Go.IntKind.u32 1116352408)), (1, Go.Operand.const (Go.Value.int Go.IntKind.u32 1899447441)), (2, Go.Operand.const (Go.Value.int Go.IntKind.u32 3049323471)), (3, Go.Operand.const (Go.Value.int Go.IntKind.u32 3921009573)), (4, Go.Operand.const (Go.Value.int Go.IntKind.u32 961987163)), (5, Go.Operand.const (Go.Value.int Go.IntKind.u32 1508970993)), (6, Go.Operand.const (Go.Value.int Go.IntKind.u32 2453635748)), (7, Go.Operand.const (Go.Value.int Go.IntKind.u32 2870763221)), (8, Go.Operand.const (Go.Value.int Go.IntKind.u32 3624381080)), (9, Go.Operand.const (Go.Value.int Go.IntKind.u32 310598401)), (10, Go.Operand.const (Go.Value.int Go.IntKind.u32 607225278)), (11, Go.Operand.const (Go.Value.int Go.IntKind.u32 1426881987)), (12, Go.Operand.const (Go.Value.int Go.IntKind.u32 1925078388)), (13, Go.Operand.const (Go.Value.int Go.IntKind.u32 2162078206)), (14, Go.Operand.const (Go.Value.int Go.IntKind.u32 2614888103)), (15, Go.Operand.const (Go.Value.int Go.IntKind.u32 3248222580)), (16, Go.Operand.const (Go.Value.int Go.IntKind.u32 3835390401)), (17, Go.Operand.const (Go.Value.int Go.IntKind.u32 4022224774)), (18, Go.Operand.const (Go.Value.int Go.IntKind.u32 264347078)), (19, Go.Operand.const (Go.Value.int Go.IntKind.u32 604807628)), (20, Go.Operand.const (Go.Value.int Go.IntKind.u32 770255983)), (21, Go.Operand.const (Go.Value.int Go.IntKind.u32 1249150122)), (22, Go.Operand.const (Go.Value.int Go.IntKind.u32 1555081692)), (23, Go.Operand.const (Go.Value.int Go.IntKind.u32 1996064986)), (24, Go.Operand.const (Go.Value.int Go.IntKind.u32 2554220882)), (25, Go.Operand.const (Go.Value.int Go.IntKind.u32 2821834349)), (26, Go.Operand.const (Go.Value.int Go.IntKind.u32 2952996808)), (27, Go.Operand.const (Go.Value.int Go.IntKind.u32 3210313671)), (28, Go.Operand.const (Go.Value.int Go.IntKind.u32 3336571891)), (29, Go.Operand.const (Go.Value.int Go.IntKind.u32 3584528711)), (30, Go.Operand.const (Go.Value.int Go.IntKind.u32 113926993)), (31, Go.Operand.const (Go.Value.int Go.IntKind.u32 338241895)), (32, Go.Operand.const (Go.Value.int Go.IntKind.u32 666307205)), (33, Go.Operand.const (Go.Value.int Go.IntKind.u32 773529912)), (34, Go.Operand.const (Go.Value.int Go.IntKind.u32 1294757372)), (35, Go.Operand.const (Go.Value.int Go.IntKind.u32 1396182291)), (36, Go.Operand.const (Go.Value.int Go.IntKind.u32 1695183700)), (37, Go.Operand.const (Go.Value.int Go.IntKind.u32 1986661051)), (38, Go.Operand.const (Go.Value.int Go.IntKind.u32 2177026350)), (39, Go.Operand.const (Go.Value.int Go.IntKind.u32 2456956037)), (40, Go.Operand.const (Go.Value.int Go.IntKind.u32 2730485921)), (41, Go.Operand.const (Go.Value.int Go.IntKind.u32 2820302411)), (42, Go.Operand.const (Go.Value.int Go.IntKind.u32 3259730800)), (43, Go.Operand.const (Go.Value.int Go.IntKind.u32 3345764771)), (44, Go.Operand.const (Go.Value.int Go.IntKind.u32 3516065817)), (45, Go.Operand.const (Go.Value.int Go.IntKind.u32 3600352804)), (46, Go.Operand.const (Go.Value.int Go.IntKind.u32 4094571909)), (47, Go.Operand.const (Go.Value.int Go.IntKind.u32 275423344)), (48, Go.Operand.const (Go.Value.int Go.IntKind.u32 430227734)), (49, Go.Operand.const (Go.Value.int Go.IntKind.u32 506948616)), (50, Go.Operand.const (Go.Value.int Go.IntKind.u32 659060556)), (51, Go.Operand.const (Go.Value.int Go.IntKind.u32 883997877)), (52, Go.Operand.const (Go.Value.int Go.IntKind.u32 958139571)), (53, Go.Operand.const (Go.Value.int Go.IntKind.u32 1322822218)), (54, Go.Operand.const (Go.Value.int Go.IntKind.u32 1537002063)), (55, Go.Operand.const (Go.Value.int Go.IntKind.u32 1747873779)), (56, Go.Operand.const (Go.Value.int Go.IntKind.u32 1955562222)), (57, Go.Operand.const (Go.Value.int Go.IntKind.u32 2024104815)), (58, Go.Operand.const (Go.Value.int Go.IntKind.u32 2227730452)), (59, Go.Operand.const (Go.Value.int Go.IntKind.u32 2361852424)), (60, Go.Operand.const (Go.Value.int Go.IntKind.u32 2428436474)), (61, Go.Operand.const (Go.Value.int Go.IntKind.u32 2756734187)), (62, Go.Operand.const (Go.Value.int Go.IntKind.u32 3204031479)), (63, Go.Operand.const (Go.Value.int Go.IntKind.u32 3329325298))]
noncomputable def R256Body : Code := ((Code.region 0 #[⟨some 3, .box 250 (.tmp 1), 0, "digest.go:25", #[], none⟩] false).seq ((Code.region 1 #[⟨some 17, .build 296 R256K0, 296, "digest.go:26", #[], none⟩, ⟨some 4, .alloc 296, 0, "digest.go:26", #[], none⟩, ⟨none, .store 296 (.tmp 4) (.tmp 17), 0, "digest.go:26", #[⟨1, .data⟩, ⟨0, .data⟩, ⟨0, .phase⟩, ⟨1, .phase⟩], none⟩] false).seq ((Code.region 2 #[⟨some 5, .alloc 296, 0, "digest.go:36", #[], none⟩] false).seq (((Code.region 3 #[⟨some 18, .move (.const (.int .i64 0)), 3, "digest.go:37", #[], none⟩] false).seq (Code.block 0 ((Code.region 4 #[⟨some 19, .binOp .lss 3 (.tmp 18) (.const (.int .i64 64)) 3, 0, "digest.go:37", #[], none⟩] false).seq ((Code.cond (.tmp 19) Code.skip (Code.exit 0)).seq ((Code.block 1 ((Code.region 5 #[⟨some 20, .move (.tmp 18), 3, "digest.go:37", #[], none⟩, ⟨some 6, .assign (.tmp 20), 3, "digest.go:37", #[⟨0, .data⟩, ⟨0, .phase⟩], none⟩] false).seq (((Code.region 6 #[⟨some 21, .move (.tmp 6), 3, "digest.go:38", #[], none⟩, ⟨some 22, .binOp .lss 3 (.tmp 21) (.const (.int .i64 16)) 3, 4, "digest.go:38", #[⟨0, .data⟩], none⟩] false).seq (Code.cond (.tmp 22) ((Code.region 7 #[⟨some 23, .move (.tmp 6), 3, "digest.go:39", #[], none⟩, ⟨some 24, .load 250 (.tmp 3), 250, "digest.go:39", #[], none⟩, ⟨some 25, .move (.tmp 6), 3, "digest.go:39", #[], none⟩, ⟨some 26, .call { callee := .value (.func 237), args := #[.tmp 24, .tmp 25], argTypes := #[250, 3] }, 138, "digest.go:39", #[⟨1, .data⟩, ⟨2, .data⟩], none⟩, ⟨some 27, .indexAddr 296 (.tmp 5) (.tmp 23), 0, "digest.go:39", #[⟨0, .data⟩, ⟨0, .phase⟩, ⟨1, .phase⟩, ⟨2, .phase⟩, ⟨3, .phase⟩], none⟩, ⟨none, .store 138 (.tmp 27) (.tmp 26), 0, "digest.go:39", #[⟨4, .data⟩, ⟨3, .data⟩, ⟨3, .chain⟩, ⟨0, .phase⟩, ⟨1, .phase⟩, ⟨2, .phase⟩, ⟨3, .phase⟩], none⟩] false).seq (Code.exit 1)) Code.skip)).seq ((Code.region 8 #[⟨some 28, .move (.tmp 6), 3, "digest.go:42", #[], none⟩, ⟨some 29, .binOp .sub 3 (.tmp 28) (.const (.int .i64 15)) 3, 3, "digest.go:42", #[⟨0, .data⟩], none⟩, ⟨some 30, .indexAddr 296 (.tmp 5) (.tmp 29), 0, "digest.go:42", #[⟨1, .data⟩], none⟩, ⟨some 31, .load 138 (.tmp 30), 138, "digest.go:42", #[⟨2, .data⟩], none⟩, ⟨some 32, .move (.tmp 6), 3, "digest.go:42", #[{ on := 8, ground := Go.Ground.gcOnly Go.Departure.lateStores }], none⟩, ⟨some 33, .binOp .sub 3 (.tmp 32) (.const (.int .i64 2)) 3, 3, "digest.go:42", #[⟨4, .data⟩, { on := 8, ground := Go.Ground.gcOnly Go.Departure.lateStores }], none⟩, ⟨some 34, .indexAddr 296 (.tmp 5) (.tmp 33), 0, "digest.go:42", #[⟨5, .data⟩, { on := 8, ground := Go.Ground.gcOnly Go.Departure.lateStores }], none⟩, ⟨some 35, .load 138 (.tmp 34), 138, "digest.go:42", #[⟨6, .data⟩, { on := 8, ground := Go.Ground.gcOnly Go.Departure.lateStores }], none⟩, ⟨some 7, .assign (.tmp 31), 138, "digest.go:42", #[⟨3, .data⟩, ⟨0, .phase⟩, ⟨1, .phase⟩, ⟨2, .phase⟩, ⟨3, .phase⟩, { on := 4, ground := Go.Ground.textOnly Go.Departure.lateStores }, { on := 5, ground := Go.Ground.textOnly Go.Departure.lateStores }, { on := 6, ground := Go.Ground.textOnly Go.Departure.lateStores }, { on := 7, ground := Go.Ground.textOnly Go.Departure.lateStores }], none⟩, ⟨some 8, .assign (.tmp 35), 138, "digest.go:42", #[⟨7, .data⟩, ⟨8, .chain⟩, ⟨0, .phase⟩, ⟨1, .phase⟩, ⟨2, .phase⟩, ⟨3, .phase⟩, ⟨4, .phase⟩, ⟨5, .phase⟩, ⟨6, .phase⟩, ⟨7, .phase⟩, ⟨8, .phase⟩], none⟩] true).seq (Code.region 9 #[⟨some 36, .move (.tmp 6), 3, "digest.go:43", #[], none⟩, ⟨some 37, .move (.tmp 6), 3, "digest.go:43", #[], none⟩, ⟨some 38, .binOp .sub 3 (.tmp 37) (.const (.int .i64 16)) 3, 3, "digest.go:43", #[⟨1, .data⟩], none⟩, ⟨some 39, .indexAddr 296 (.tmp 5) (.tmp 38), 0, "digest.go:43", #[⟨2, .data⟩], none⟩, ⟨some 40, .load 138 (.tmp 39), 138, "digest.go:43", #[⟨3, .data⟩], none⟩, ⟨some 41, .move (.tmp 7), 138, "digest.go:43", #[], none⟩, ⟨some 42, .call { callee := .value (.func 238), args := #[.tmp 41, .const (.int .i64 (-7))], argTypes := #[138, 3] }, 138, "digest.go:43", #[⟨5, .data⟩], none⟩, ⟨some 43, .move (.tmp 7), 138, "digest.go:43", #[], none⟩, ⟨some 44, .call { callee := .value (.func 238), args := #[.tmp 43, .const (.int .i64 (-18))], argTypes := #[138, 3] }, 138, "digest.go:43", #[⟨7, .data⟩, ⟨6, .chain⟩], none⟩, ⟨some 45, .binOp .xor 138 (.tmp 42) (.tmp 44) 138, 138, "digest.go:43", #[⟨6, .data⟩, ⟨8, .data⟩], none⟩, ⟨some 46, .move (.tmp 7), 138, "digest.go:43", #[], none⟩, ⟨some 47, .binOp .shr 138 (.tmp 46) (.const (.int .u64 3)) 243, 138, "digest.go:43", #[⟨10, .data⟩], none⟩, ⟨some 48, .binOp .xor 138 (.tmp 45) (.tmp 47) 138, 138, "digest.go:43", #[⟨9, .data⟩, ⟨11, .data⟩], none⟩, ⟨some 49, .binOp .add 138 (.tmp 40) (.tmp 48) 138, 138, "digest.go:43", #[⟨4, .data⟩, ⟨12, .data⟩], none⟩, ⟨some 50, .move (.tmp 6), 3, "digest.go:43", #[], none⟩, ⟨some 51, .binOp .sub 3 (.tmp 50) (.const (.int .i64 7)) 3, 3, "digest.go:43", #[⟨14, .data⟩], none⟩, ⟨some 52, .indexAddr 296 (.tmp 5) (.tmp 51), 0, "digest.go:43", #[⟨15, .data⟩], none⟩, ⟨some 53, .load 138 (.tmp 52), 138, "digest.go:43", #[⟨16, .data⟩], none⟩, ⟨some 54, .binOp .add 138 (.tmp 49) (.tmp 53) 138, 138, "digest.go:43", #[⟨13, .data⟩, ⟨17, .data⟩], none⟩, ⟨some 55, .move (.tmp 8), 138, "digest.go:43", #[], none⟩, ⟨some 56, .call { callee := .value (.func 238), args := #[.tmp 55, .const (.int .i64 (-17))], argTypes := #[138, 3] }, 138, "digest.go:43", #[⟨19, .data⟩, ⟨8, .chain⟩], none⟩, ⟨some 57, .move (.tmp 8), 138, "digest.go:43", #[], none⟩, ⟨some 58, .call { callee := .value (.func 238), args := #[.tmp 57, .const (.int .i64 (-19))], argTypes := #[138, 3] }, 138, "digest.go:43", #[⟨21, .data⟩, ⟨20, .chain⟩], none⟩, ⟨some 59, .binOp .xor 138 (.tmp 56) (.tmp 58) 138, 138, "digest.go:43", #[⟨20, .data⟩, ⟨22, .data⟩], none⟩, ⟨some 60, .move (.tmp 8), 138, "digest.go:43", #[], none⟩, ⟨some 61, .binOp .shr 138 (.tmp 60) (.const (.int .u64 10)) 243, 138, "digest.go:43", #[⟨24, .data⟩], none⟩, ⟨some 62, .binOp .xor 138 (.tmp 59) (.tmp 61) 138, 138, "digest.go:43", #[⟨23, .data⟩, ⟨25, .data⟩], none⟩, ⟨some 63, .binOp .add 138 (.tmp 54) (.tmp 62) 138, 138, "digest.go:43", #[⟨18, .data⟩, ⟨26, .data⟩], none⟩, ⟨some 64, .indexAddr 296 (.tmp 5) (.tmp 36), 0, "digest.go:43", #[⟨0, .data⟩, ⟨0, .phase⟩, ⟨1, .phase⟩, ⟨2, .phase⟩, ⟨3, .phase⟩, ⟨4, .phase⟩, ⟨5, .phase⟩, ⟨6, .phase⟩, ⟨7, .phase⟩, ⟨8, .phase⟩, ⟨9, .phase⟩, ⟨10, .phase⟩, ⟨11, .phase⟩, ⟨12, .phase⟩, ⟨13, .phase⟩, ⟨14, .phase⟩, ⟨15, .phase⟩, ⟨16, .phase⟩, ⟨17, .phase⟩, ⟨18, .phase⟩, ⟨19, .phase⟩, ⟨20, .phase⟩, ⟨21, .phase⟩, ⟨22, .phase⟩, ⟨23, .phase⟩, ⟨24, .phase⟩, ⟨25, .phase⟩, ⟨26, .phase⟩, ⟨27, .phase⟩], none⟩, ⟨none, .store 138 (.tmp 64) (.tmp 63), 0, "digest.go:43", #[⟨28, .data⟩, ⟨27, .data⟩, ⟨22, .chain⟩, ⟨0, .phase⟩, ⟨1, .phase⟩, ⟨2, .phase⟩, ⟨3, .phase⟩, ⟨4, .phase⟩, ⟨5, .phase⟩, ⟨6, .phase⟩, ⟨7, .phase⟩, ⟨8, .phase⟩, ⟨9, .phase⟩, ⟨10, .phase⟩, ⟨11, .phase⟩, ⟨12, .phase⟩, ⟨13, .phase⟩, ⟨14, .phase⟩, ⟨15, .phase⟩, ⟨16, .phase⟩, ⟨17, .phase⟩, ⟨18, .phase⟩, ⟨19, .phase⟩, ⟨20, .phase⟩, ⟨21, .phase⟩, ⟨22, .phase⟩, ⟨23, .phase⟩, ⟨24, .phase⟩, ⟨25, .phase⟩, ⟨26, .phase⟩, ⟨27, .phase⟩], none⟩] true))))).seq (Code.region 10 #[⟨some 65, .binOp .add 3 (.tmp 18) (.const (.int .i64 1)) 3, 3, "digest.go:37", #[], none⟩, ⟨some 18, .move (.tmp 65), 3, "digest.go:37", #[⟨0, .data⟩], none⟩] false)))).loop)).seq ((Code.region 11 #[⟨some 66, .move (.tmp 0), 284, "digest.go:45", #[], none⟩, ⟨some 67, .nilCheck (.tmp 66), 0, "digest.go:45", #[⟨0, .data⟩], none⟩, ⟨some 68, .load 249 (.tmp 67), 249, "digest.go:45", #[⟨1, .data⟩], none⟩, ⟨some 9, .alloc 249, 0, "digest.go:45", #[], none⟩, ⟨none, .store 249 (.tmp 9) (.tmp 68), 0, "digest.go:45", #[⟨3, .data⟩, ⟨2, .data⟩, ⟨0, .phase⟩, ⟨1, .phase⟩, ⟨2, .phase⟩, ⟨3, .phase⟩], none⟩] false).seq (((Code.region 12 #[⟨some 69, .load 296 (.tmp 5), 296, "digest.go:46", #[], none⟩, ⟨some 70, .move (.const (.int .i64 0)), 3, "digest.go:46", #[], none⟩] false).seq (Code.block 2 ((Code.region 13 #[⟨some 71, .binOp .lss 3 (.tmp 70) (.const (.int .i64 64)) 3, 0, "digest.go:46", #[], none⟩] false).seq ((Code.cond (.tmp 71) Code.skip (Code.exit 2)).seq ((Code.block 3 ((Code.region 14 #[⟨some 72, .move (.tmp 70), 3, "digest.go:46", #[], none⟩, ⟨some 73, .index 296 (.tmp 69) (.tmp 70), 138, "digest.go:46", #[], none⟩, ⟨some 10, .assign (.tmp 72), 3, "digest.go:46", #[⟨0, .data⟩, ⟨0, .phase⟩, ⟨1, .phase⟩], none⟩, ⟨some 11, .assign (.tmp 73), 138, "digest.go:46", #[⟨1, .data⟩, ⟨2, .chain⟩, ⟨0, .phase⟩, ⟨1, .phase⟩, ⟨2, .phase⟩], none⟩] false).seq ((Code.region 15 #[⟨some 74, .indexAddr 249 (.tmp 9) (.const (.int .i64 0)), 0, "digest.go:47", #[], none⟩, ⟨some 75, .load 138 (.tmp 74), 138, "digest.go:47", #[⟨0, .data⟩], none⟩, ⟨some 76, .indexAddr 249 (.tmp 9) (.const (.int .i64 4)), 0, "digest.go:47", #[{ on := 4, ground := Go.Ground.gcOnly Go.Departure.lateStores }], none⟩, ⟨some 77, .load 138 (.tmp 76), 138, "digest.go:47", #[⟨2, .data⟩, { on := 4, ground := Go.Ground.gcOnly Go.Departure.lateStores }], none⟩, ⟨some 12, .assign (.tmp 75), 138, "digest.go:47", #[⟨1, .data⟩, ⟨0, .phase⟩, ⟨1, .phase⟩, { on := 2, ground := Go.Ground.textOnly Go.Departure.lateStores }, { on := 3, ground := Go.Ground.textOnly Go.Departure.lateStores }], none⟩, ⟨some 13, .assign (.tmp 77), 138, "digest.go:47", #[⟨3, .data⟩, ⟨4, .chain⟩, ⟨0, .phase⟩, ⟨1, .phase⟩, ⟨2, .phase⟩, ⟨3, .phase⟩, ⟨4, .phase⟩], none⟩] true).seq ((Code.region 16 #[⟨some 78, .indexAddr 249 (.tmp 9) (.const (.int .i64 7)), 0, "digest.go:48", #[], none⟩, ⟨some 79, .load 138 (.tmp 78), 138, "digest.go:48", #[⟨0, .data⟩], none⟩, ⟨some 80, .move (.tmp 13), 138, "digest.go:48", #[], none⟩, ⟨some 81, .call { callee := .value (.func 238), args := #[.tmp 80, .const (.int .i64 (-6))], argTypes := #[138, 3] }, 138, "digest.go:48", #[⟨2, .data⟩], none⟩, ⟨some 82, .move (.tmp 13), 138, "digest.go:48", #[], none⟩, ⟨some 83, .call { callee := .value (.func 238), args := #[.tmp 82, .const (.int .i64 (-11))], argTypes := #[138, 3] }, 138, "digest.go:48", #[⟨4, .data⟩, ⟨3, .chain⟩], none⟩, ⟨some 84, .binOp .xor 138 (.tmp 81) (.tmp 83) 138, 138, "digest.go:48", #[⟨3, .data⟩, ⟨5, .data⟩], none⟩, ⟨some 85, .move (.tmp 13), 138, "digest.go:48", #[], none⟩, ⟨some 86, .call { callee := .value (.func 238), args := #[.tmp 85, .const (.int .i64 (-25))], argTypes := #[138, 3] }, 138, "digest.go:48", #[⟨7, .data⟩, ⟨5, .chain⟩], none⟩, ⟨some 87, .binOp .xor 138 (.tmp 84) (.tmp 86) 138, 138, "digest.go:48", #[⟨6, .data⟩, ⟨8, .data⟩], none⟩, ⟨some 88, .binOp .add 138 (.tmp 79) (.tmp 87) 138, 138, "digest.go:48", #[⟨1, .data⟩, ⟨9, .data⟩], none⟩, ⟨some 89, .indexAddr 249 (.tmp 9) (.const (.int .i64 6)), 0, "digest.go:48", #[], none⟩, ⟨some 90, .load 138 (.tmp 89), 138, "digest.go:48", #[⟨11, .data⟩], none⟩, ⟨some 91, .move (.tmp 13), 138, "digest.go:48", #[], none⟩, ⟨some 92, .indexAddr 249 (.tmp 9) (.const (.int .i64 5)), 0, "digest.go:48", #[], none⟩, ⟨some 93, .load 138 (.tmp 92), 138, "digest.go:48", #[⟨14, .data⟩], none⟩, ⟨some 94, .indexAddr 249 (.tmp 9) (.const (.int .i64 6)), 0, "digest.go:48", #[], none⟩, ⟨some 95, .load 138 (.tmp 94), 138, "digest.go:48", #[⟨16, .data⟩], none⟩, ⟨some 96, .binOp .xor 138 (.tmp 93) (.tmp 95) 138, 138, "digest.go:48", #[⟨15, .data⟩, ⟨17, .data⟩], none⟩, ⟨some 97, .binOp .and 138 (.tmp 91) (.tmp 96) 138, 138, "digest.go:48", #[⟨13, .data⟩, ⟨18, .data⟩], none⟩, ⟨some 98, .binOp .xor 138 (.tmp 90) (.tmp 97) 138, 138, "digest.go:48", #[⟨12, .data⟩, ⟨19, .data⟩], none⟩, ⟨some 99, .binOp .add 138 (.tmp 88) (.tmp 98) 138, 138, "digest.go:48", #[⟨10, .data⟩, ⟨20, .data⟩], none⟩, ⟨some 100, .move (.tmp 10), 3, "digest.go:48", #[], none⟩, ⟨some 101, .indexAddr 296 (.tmp 4) (.tmp 100), 0, "digest.go:48", #[⟨22, .data⟩], none⟩, ⟨some 102, .load 138 (.tmp 101), 138, "digest.go:48", #[⟨23, .data⟩], none⟩, ⟨some 103, .binOp .add 138 (.tmp 99) (.tmp 102) 138, 138, "digest.go:48", #[⟨21, .data⟩, ⟨24, .data⟩], none⟩, ⟨some 104, .move (.tmp 11), 138, "digest.go:48", #[], none⟩, ⟨some 105, .binOp .add 138 (.tmp 103) (.tmp 104) 138, 138, "digest.go:48", #[⟨25, .data⟩, ⟨26, .data⟩], none⟩, ⟨some 14, .assign (.tmp 105), 138, "digest.go:48", #[⟨27, .data⟩, ⟨8, .chain⟩, ⟨0, .phase⟩, ⟨1, .phase⟩, ⟨2, .phase⟩, ⟨3, .phase⟩, ⟨4, .phase⟩, ⟨5, .phase⟩, ⟨6, .phase⟩, ⟨7, .phase⟩, ⟨8, .phase⟩, ⟨9, .phase⟩, ⟨10, .phase⟩, ⟨11, .phase⟩, ⟨12, .phase⟩, ⟨13, .phase⟩, ⟨14, .phase⟩, ⟨15, .phase⟩, ⟨16, .phase⟩, ⟨17, .phase⟩, ⟨18, .phase⟩, ⟨19, .phase⟩, ⟨20, .phase⟩, ⟨21, .phase⟩, ⟨22, .phase⟩, ⟨23, .phase⟩, ⟨24, .phase⟩, ⟨25, .phase⟩, ⟨26, .phase⟩, ⟨27, .phase⟩], none⟩] true).seq ((Code.region 17 #[⟨some 106, .move (.tmp 12), 138, "digest.go:49", #[], none⟩, ⟨some 107, .call { callee := .value (.func 238), args := #[.tmp 106, .const (.int .i64 (-2))], argTypes := #[138, 3] }, 138, "digest.go:49", #[⟨0, .data⟩], none⟩, ⟨some 108, .move (.tmp 12), 138, "digest.go:49", #[], none⟩, ⟨some 109, .call { callee := .value (.func 238), args := #[.tmp 108, .const (.int .i64 (-13))], argTypes := #[138, 3] }, 138, "digest.go:49", #[⟨2, .data⟩, ⟨1, .chain⟩], none⟩, ⟨some 110, .binOp .xor 138 (.tmp 107) (.tmp 109) 138, 138, "digest.go:49", #[⟨1, .data⟩, ⟨3, .data⟩], none⟩, ⟨some 111, .move (.tmp 12), 138, "digest.go:49", #[], none⟩, ⟨some 112, .call { callee := .value (.func 238), args := #[.tmp 111, .const (.int .i64 (-22))], argTypes := #[138, 3] }, 138, "digest.go:49", #[⟨5, .data⟩, ⟨3, .chain⟩], none⟩, ⟨some 113, .binOp .xor 138 (.tmp 110) (.tmp 112) 138, 138, "digest.go:49", #[⟨4, .data⟩, ⟨6, .data⟩], none⟩, ⟨some 114, .move (.tmp 12), 138, "digest.go:49", #[], none⟩, ⟨some 115, .indexAddr 249 (.tmp 9) (.const (.int .i64 1)), 0, "digest.go:49", #[], none⟩, ⟨some 116, .load 138 (.tmp 115), 138, "digest.go:49", #[⟨9, .data⟩], none⟩, ⟨some 117, .binOp .and 138 (.tmp 114) (.tmp 116) 138, 138, "digest.go:49", #[⟨8, .data⟩, ⟨10, .data⟩], none⟩, ⟨some 118, .indexAddr 249 (.tmp 9) (.const (.int .i64 2)), 0, "digest.go:49", #[], none⟩, ⟨some 119, .load 138 (.tmp 118), 138, "digest.go:49", #[⟨12, .data⟩], none⟩, ⟨some 120, .move (.tmp 12), 138, "digest.go:49", #[], none⟩, ⟨some 121, .indexAddr 249 (.tmp 9) (.const (.int .i64 1)), 0, "digest.go:49", #[], none⟩, ⟨some 122, .load 138 (.tmp 121), 138, "digest.go:49", #[⟨15, .data⟩], none⟩, ⟨some 123, .binOp .or 138 (.tmp 120) (.tmp 122) 138, 138, "digest.go:49", #[⟨14, .data⟩, ⟨16, .data⟩], none⟩, ⟨some 124, .binOp .and 138 (.tmp 119) (.tmp 123) 138, 138, "digest.go:49", #[⟨13, .data⟩, ⟨17, .data⟩], none⟩, ⟨some 125, .binOp .or 138 (.tmp 117) (.tmp 124) 138, 138, "digest.go:49", #[⟨11, .data⟩, ⟨18, .data⟩], none⟩, ⟨some 126, .binOp .add 138 (.tmp 113) (.tmp 125) 138, 138, "digest.go:49", #[⟨7, .data⟩, ⟨19, .data⟩], none⟩, ⟨some 15, .assign (.tmp 126), 138, "digest.go:49", #[⟨20, .data⟩, ⟨6, .chain⟩, ⟨0, .phase⟩, ⟨1, .phase⟩, ⟨2, .phase⟩, ⟨3, .phase⟩, ⟨4, .phase⟩, ⟨5, .phase⟩, ⟨6, .phase⟩, ⟨7, .phase⟩, ⟨8, .phase⟩, ⟨9, .phase⟩, ⟨10, .phase⟩, ⟨11, .phase⟩, ⟨12, .phase⟩, ⟨13, .phase⟩, ⟨14, .phase⟩, ⟨15, .phase⟩, ⟨16, .phase⟩, ⟨17, .phase⟩, ⟨18, .phase⟩, ⟨19, .phase⟩, ⟨20, .phase⟩], none⟩] true).seq (Code.region 18 #[⟨some 127, .move (.tmp 14), 138, "digest.go:50", #[], none⟩, ⟨some 128, .move (.tmp 15), 138, "digest.go:50", #[], none⟩, ⟨some 129, .binOp .add 138 (.tmp 127) (.tmp 128) 138, 138, "digest.go:50", #[⟨0, .data⟩, ⟨1, .data⟩], none⟩, ⟨some 130, .indexAddr 249 (.tmp 9) (.const (.int .i64 0)), 0, "digest.go:50", #[], none⟩, ⟨some 131, .load 138 (.tmp 130), 138, "digest.go:50", #[⟨3, .data⟩], none⟩, ⟨some 132, .indexAddr 249 (.tmp 9) (.const (.int .i64 1)), 0, "digest.go:50", #[], none⟩, ⟨some 133, .load 138 (.tmp 132), 138, "digest.go:50", #[⟨5, .data⟩], none⟩, ⟨some 134, .indexAddr 249 (.tmp 9) (.const (.int .i64 2)), 0, "digest.go:50", #[], none⟩, ⟨some 135, .load 138 (.tmp 134), 138, "digest.go:50", #[⟨7, .data⟩], none⟩, ⟨some 136, .indexAddr 249 (.tmp 9) (.const (.int .i64 3)), 0, "digest.go:50", #[], none⟩, ⟨some 137, .load 138 (.tmp 136), 138, "digest.go:50", #[⟨9, .data⟩], none⟩, ⟨some 138, .move (.tmp 14), 138, "digest.go:50", #[], none⟩, ⟨some 139, .binOp .add 138 (.tmp 137) (.tmp 138) 138, 138, "digest.go:50", #[⟨10, .data⟩, ⟨11, .data⟩], none⟩, ⟨some 140, .indexAddr 249 (.tmp 9) (.const (.int .i64 4)), 0, "digest.go:50", #[], none⟩, ⟨some 141, .load 138 (.tmp 140), 138, "digest.go:50", #[⟨13, .data⟩], none⟩, ⟨some 142, .indexAddr 249 (.tmp 9) (.const (.int .i64 5)), 0, "digest.go:50", #[], none⟩, ⟨some 143, .load 138 (.tmp 142), 138, "digest.go:50", #[⟨15, .data⟩], none⟩, ⟨some 144, .indexAddr 249 (.tmp 9) (.const (.int .i64 6)), 0, "digest.go:50", #[], none⟩, ⟨some 145, .load 138 (.tmp 144), 138, "digest.go:50", #[⟨17, .data⟩], none⟩, ⟨some 146, .build 249 #[(0, .tmp 129), (1, .tmp 131), (2, .tmp 133), (3, .tmp 135), (4, .tmp 139), (5, .tmp 141), (6, .tmp 143), (7, .tmp 145)], 249, "digest.go:50", #[⟨2, .data⟩, ⟨4, .data⟩, ⟨6, .data⟩, ⟨8, .data⟩, ⟨12, .data⟩, ⟨14, .data⟩, ⟨16, .data⟩, ⟨18, .data⟩], none⟩, ⟨none, .store 249 (.tmp 9) (.tmp 146), 0, "digest.go:50", #[⟨19, .data⟩, ⟨0, .phase⟩, ⟨1, .phase⟩, ⟨2, .phase⟩, ⟨3, .phase⟩, ⟨4, .phase⟩, ⟨5, .phase⟩, ⟨6, .phase⟩, ⟨7, .phase⟩, ⟨8, .phase⟩, ⟨9, .phase⟩, ⟨10, .phase⟩, ⟨11, .phase⟩, ⟨12, .phase⟩, ⟨13, .phase⟩, ⟨14, .phase⟩, ⟨15, .phase⟩, ⟨16, .phase⟩, ⟨17, .phase⟩, ⟨18, .phase⟩, ⟨19, .phase⟩], none⟩] false)))))).seq (Code.region 19 #[⟨some 147, .binOp .add 3 (.tmp 70) (.const (.int .i64 1)) 3, 3, "digest.go:46", #[], none⟩, ⟨some 70, .move (.tmp 147), 3, "digest.go:46", #[⟨0, .data⟩], none⟩] false)))).loop)).seq ((Code.region 20 #[⟨some 148, .move (.const (.int .i64 0)), 3, "digest.go:52", #[], none⟩] false).seq (Code.block 4 ((Code.region 21 #[⟨some 149, .binOp .lss 3 (.tmp 148) (.const (.int .i64 8)) 3, 0, "digest.go:52", #[], none⟩] false).seq ((Code.cond (.tmp 149) Code.skip (Code.exit 4)).seq ((Code.block 5 ((Code.region 22 #[⟨some 150, .move (.tmp 148), 3, "digest.go:52", #[], none⟩, ⟨some 16, .assign (.tmp 150), 3, "digest.go:52", #[⟨0, .data⟩, ⟨0, .phase⟩], none⟩] false).seq (Code.region 23 #[⟨some 151, .move (.tmp 0), 284, "digest.go:53", #[], none⟩, ⟨some 152, .move (.tmp 16), 3, "digest.go:53", #[], none⟩, ⟨some 153, .nilCheck (.tmp 151), 0, "digest.go:53", #[⟨0, .data⟩], none⟩, ⟨some 154, .indexAddr 249 (.tmp 153) (.tmp 152), 0, "digest.go:53", #[⟨2, .data⟩, ⟨1, .data⟩], none⟩, ⟨some 155, .load 138 (.tmp 154), 138, "digest.go:53", #[⟨3, .data⟩], none⟩, ⟨some 156, .move (.tmp 16), 3, "digest.go:53", #[], none⟩, ⟨some 157, .indexAddr 249 (.tmp 9) (.tmp 156), 0, "digest.go:53", #[⟨5, .data⟩], none⟩, ⟨some 158, .load 138 (.tmp 157), 138, "digest.go:53", #[⟨6, .data⟩], none⟩, ⟨some 159, .binOp .add 138 (.tmp 155) (.tmp 158) 138, 138, "digest.go:53", #[⟨4, .data⟩, ⟨7, .data⟩], none⟩, ⟨some 160, .nilCheck (.tmp 151), 0, "digest.go:53", #[⟨0, .data⟩], none⟩, ⟨some 161, .indexAddr 249 (.tmp 160) (.tmp 152), 0, "digest.go:53", #[⟨9, .data⟩, ⟨1, .data⟩, ⟨0, .phase⟩, ⟨1, .phase⟩, ⟨2, .phase⟩, ⟨3, .phase⟩, ⟨4, .phase⟩, ⟨5, .phase⟩, ⟨6, .phase⟩, ⟨7, .phase⟩, ⟨8, .phase⟩], none⟩, ⟨none, .store 138 (.tmp 161) (.tmp 159), 0, "digest.go:53", #[⟨10, .data⟩, ⟨8, .data⟩, ⟨0, .phase⟩, ⟨1, .phase⟩, ⟨2, .phase⟩, ⟨3, .phase⟩, ⟨4, .phase⟩, ⟨5, .phase⟩, ⟨6, .phase⟩, ⟨7, .phase⟩, ⟨8, .phase⟩], none⟩] true))).seq (Code.region 24 #[⟨some 162, .binOp .add 3 (.tmp 148) (.const (.int .i64 1)) 3, 3, "digest.go:52", #[], none⟩, ⟨some 148, .move (.tmp 162), 3, "digest.go:52", #[⟨0, .data⟩], none⟩] false)))).loop))))))))
theorem R256_body : Tryz.f223.body = some R256Body := by kernel_rfl
end Go.Proofs.YtnbonhinpepgoaaGreat
end
section
set_option linter.unusedVariables false
namespace Go.Proofs.YtnbonhinpepgoaaGreat
section
variable {P : Program} {ops : Array Oper} {md : Region.Mode} {C : World → Prop}
def wpAnyT (P : Program) (md : Region.Mode) (ops : Array Oper) (C : World → Prop) (n : Nat) (L : Array Bool → Act → Prop) : Nat → Array Bool → Act → Prop
  | 0, listed, a => L listed a
  | f + 1, listed, a =>
    Region.ready md ops listed ≠ [] ∧ ∀ i ∈ Region.ready md ops listed, i < n ∧ qOp P ops C i (wpAnyT P md ops C n L f (listed.setIfInBounds i true)) a
theorem wpAny_of_headT {n g : Nat} {L : Array Bool → Act → Prop} {Q' : Exit → Act → World → Prop} (hL : ∀ listed a w, C w → L listed a → wpAny P md ops Q' g listed a w) :
    ∀ (f : Nat) (listed : Array Bool) (a : Act) (w : World), C w → wpAnyT P md ops C n L f listed a → wpAny P md ops Q' (f + g) listed a w
  | 0, listed, a, w, hw, h => by rw [Nat.zero_add]; exact hL _ _ _ hw h
  | f + 1, listed, a, w, hw, h => by
    rw [show f + 1 + g = (f + g) + 1 by omega]
    exact ⟨fun h0 => absurd h0 h.1, fun i hi => wpOp_of_qOp hw (fun a' w' hw' h' => wpAny_of_headT hL f _ a' w' hw' h') (h.2 i hi).2⟩
theorem wpAnyT_first {n i : Nat} {oi : Oper} {v : Value} {L : Array Bool → Act → Prop} (hi : ops[i]? = some oi) (hsel : ∀ (j : Nat) (o : Oper) cs b, ops[j]? = some o → o.op ≠ .select cs b)
    (hs : Region.sinkB md ops n = true) (hc : Region.chainB md ops n = true) (hn : n < ops.size) (hin : i < n)
    (hdone : ∀ listed a, L listed a → ∀ j ∈ Region.ready md ops listed, n ≤ j) :
    ∀ (f : Nat) (listed : Array Bool) (a : Act), HeadInv md ops n listed →
      (∀ j oj, ops[j]? = some oj → j ≠ i → listed.getD j true = false → (∀ e ∈ oj.after, Region.binds md e = true → e.on ≠ i) → oi.apart ops oj = true) →
      i ∈ Region.ready md ops listed → YieldsIn P ops C oi v a →
      wpAnyT P md ops C n L f (listed.setIfInBounds i true) (a.put oi.dst v) → wpAnyT P md ops C n L (f + 1) listed a := by
  intro f
  induction f with
  | zero =>
    intro listed a inv _ hr hy H
    have hun := (mem_ready.1 hr).1
    refine ⟨fun h => (by rw [h] at hr; cases hr), fun j hj => ?_⟩
    have hjn : j < n := by
      rcases Nat.lt_or_ge j n with h | h
      · exact h
      · exact absurd hj (tail_waits hs hc hn inv _ i rfl hin hun j h)
    refine ⟨hjn, ?_⟩
    by_cases hji : j = i
    · subst hji; exact hy.qOp hi H
    · have := hdone _ _ H j (ready_mono hj hji)
      omega
  | succ f ih =>
    intro listed a inv hfree hr hy H
    have hun := (mem_ready.1 hr).1
    refine ⟨fun h => (by rw [h] at hr; cases hr), fun j hj => ?_⟩
    have hjn : j < n := by
      rcases Nat.lt_or_ge j n with h | h
      · exact h
      · exact absurd hj (tail_waits hs hc hn inv _ i rfl hin hun j h)
    refine ⟨hjn, ?_⟩
    by_cases hji : j = i
    · subst hji; exact hy.qOp hi H
    · have h1 := (H.2 j (ready_mono hj hji)).2
      obtain ⟨hjun, oj, hoj, hall⟩ := mem_ready.1 hj
      have hnot : ∀ e ∈ oj.after, Region.binds md e = true → e.on ≠ i := fun e he hb heq => by
        have h1 := hall e he hb
        rw [heq, getD_both hun] at h1
        cases h1
      have h2 := qOp_put hoj (hfree j oj hoj hji hjun hnot) (fun cs b => hsel i oi cs b hi) (fun cs b => hsel j oj cs b hoj) hy h1
      have hfree' : ∀ k ok, ops[k]? = some ok → k ≠ i → (listed.setIfInBounds j true).getD k true = false →
          (∀ e ∈ ok.after, Region.binds md e = true → e.on ≠ i) → oi.apart ops ok = true := fun k ok hk hki hun hno => by
        refine hfree k ok hk hki ?_ hno
        by_cases hjk : j = k
        · subst hjk; exact hjun
        · rw [getD_set_ne true hjk] at hun; exact hun
      refine qOp_mono (fun a' h3 => ih (listed.setIfInBounds j true) a' (inv.set hj hjn) hfree' (ready_mono hr (Ne.symm hji)) h3.1 ?_) h2
      rw [Array.setIfInBounds_comm _ _ hji]
      exact h3.2
theorem wpAnyT_lex {n g : Nat} {Lq : Act → Prop} (hsel : Region.noSelect ops = true) (hs : Region.sinkB md ops n = true) (hc : Region.chainB md ops n = true) (hn : n < ops.size) :
    ∀ (l : List Oper) (k : Nat) (listed : Array Bool) (a : Act), (∀ j, j < l.length → l[j]? = ops[k + j]?) → k + l.length = n → HeadInv md ops n listed →
    Region.lexHead md ops g l.length k listed = true → wpQuiet P ops C Lq l a →
    wpAnyT P md ops C n (fun listed' a' => Region.seqB md ops g n listed' = true ∧ Lq a') l.length listed a
  | [], k, listed, a, _, hk, _, hB, h => by
    have : k = n := by simpa using hk
    subst this
    exact ⟨by simpa [Region.lexHead] using hB, h⟩
  | o :: l, k, listed, a, hl, hk, inv, hB, h => by
    have h0 : ops[k]? = some o := by simpa using (hl 0 (by simp)).symm
    simp only [List.length_cons, Region.lexHead, Bool.and_eq_true] at hB
    obtain ⟨⟨hr, hf⟩, hB'⟩ := hB
    have hkn : k < n := by simp only [List.length_cons] at hk; omega
    have hr' : k ∈ Region.ready md ops listed := by simpa using hr
    have hst : qOp P ops C k (wpQuiet P ops C Lq l) a := by unfold qOp; simp only [h0]; exact h
    obtain ⟨v, hy, hK⟩ := yieldsIn_of_qOp h0 hst
    exact wpAnyT_first h0 (Region.noSelect_spec hsel) hs hc hn hkn (fun listed' a' hL => seqB_ready hL.1) l.length listed a inv (Region.free_spec h0 hf) hr' hy
      (wpAnyT_lex hsel hs hc hn l (k + 1) _ _ (fun j hj => by have := hl (j + 1) (by simp; omega); simpa [Nat.add_assoc, Nat.add_comm 1 j] using this) (by simp only [List.length_cons] at hk; omega) (inv.set hr' hkn) hB' hK)
theorem wp_region_quiet_tail {id : Nat} {Q : Exit → Act → World → Prop} {a : Act} {w : World} {l : List Oper} (n : Nat) (hm : P.follows .mixedOrders = true) (hB : Region.lexTailB .any l.toArray n = true)
    (h : wpQuiet P l.toArray (fun w' => ∃ n, w' = w.drewN n) (fun a' => ∀ w', (∃ n, w' = w.drewN n) → wpList P l.toArray Q (l.drop n) a' w') (l.take n) a) : (Code.region id l.toArray true).wp P Q a w := by
  simp only [Region.lexTailB, Bool.and_eq_true, decide_eq_true_eq] at hB
  obtain ⟨⟨⟨⟨hsel, hn⟩, hs⟩, hc⟩, hlex⟩ := hB
  have hn' : n < l.length := by simpa using hn
  have htl : (l.take n).length = n := by simp; omega
  have hdl : (l.drop n).length = l.toArray.size - n := by simp
  have inv0 : HeadInv .any l.toArray n (Array.replicate l.toArray.size false) :=
    ⟨by simp, fun j oj _ hl => (by rw [getD_replicate_false] at hl; cases hl), fun t _ ht => getD_in (by simpa using ht) (getD_replicate_false _ _)⟩
  have H := wpAnyT_lex (md := .any) (g := l.toArray.size - n) hsel hs hc hn (l.take n) 0 _ a (fun j hj => by
    have hj' : j < n := by rw [htl] at hj; exact hj
    simp [hj']) (by simpa using htl) inv0 (by rw [htl]; exact hlex) h
  refine wp_region_any hm ?_
  have := wpAny_of_headT (C := fun w' => ∃ n, w' = w.drewN n) (Q' := Q) (g := l.toArray.size - n) (fun listed a' w' hw' hL => by
    have := wpAny_of_seq (md := .any) (Q' := Q) (l.drop n) n listed a' w' (fun j => by simp [List.getElem?_drop]) (by rw [hdl]; exact hL.1) (hL.2 w' hw')
    rwa [hdl] at this) _ _ _ { w with drawn := w.drawn + 1 } ⟨1, rfl⟩ H
  rw [htl, show n + (l.toArray.size - n) = l.toArray.size by omega] at this
  exact this
end
end Go.Proofs.YtnbonhinpepgoaaGreat
end
section
set_option linter.unusedVariables false
namespace Go.Proofs.YtnbonhinpepgoaaGreat
open Go.RowKit
theorem own_fr {M : Nat → Prop} {w w' : World} {base n size : Nat} {e : TypeId} {v : Value} {xs : List Value} (h : w.ownsRow base e size v n xs) (hf : Fr M w w') (hM : ∀ k, base ≤ k → k < w.heap.size → v.ownBlock = some k → ¬ M k) : w'.ownsRow base e size v n xs := by
  refine ⟨h.1, ?_⟩
  rcases h.2 with hn | ⟨g, cap, cur, rfl, hg, hh, r⟩
  · exact .inl hn
  · exact .inr ⟨g, cap, cur, rfl, hg, hf.heap hh (hM g hg (block_lt hh) rfl), r⟩
section
variable {P : Program} {ops : Array Oper} {rest : List Oper} {o : Oper} {a : Act} {Q : Exit → Act → World → Prop}
theorem run_app_none {W : World} {t ty e : TypeId} {i : TypeInfo} (ht : P.underlying t = some (.slice e)) (hi : P.info? e = some i) (B X : Option Addr) (l c0 c : Nat) (hle : l ≤ c0) :
    (Builtin.append_ #[t, t] ty #[.slice B l c0, .slice X 0 c]).run P W = .ok (.slice B l c0) W := by
  cases B <;> cases X <;> simp [Builtin.append_, run_underlying ht, sizeOf, typeInfo, hi, Builtin.lenOf, hle, Builtin.firstCells, storeCells, loadCells, loadCellsFrom]
end
theorem own_lower {w : World} {base base' n size : Nat} {e : TypeId} {v : Value} {xs : List Value} (h : w.ownsRow base e size v n xs) (hb : base' ≤ base) : w.ownsRow base' e size v n xs :=
  ⟨h.1, h.2.imp id fun ⟨g, cap, cur, hv, hg, r⟩ => ⟨g, cap, cur, hv, Nat.le_trans hb hg, r⟩⟩
theorem own_empty {W : World} {base g size : Nat} {e : TypeId} (h : W.heap[g]? = some (.cells #[] e (0, 0))) (hb : base ≤ g) : W.ownsRow base e size (.slice (some ⟨g, 0, none⟩) 0 0) 0 [] :=
  ⟨by simp, .inr ⟨g, 0, #[], rfl, hb, h, Nat.le_refl _, by simp [maxLen], by simp, by simp⟩⟩
theorem Fr.own {M : Nat → Prop} {w w1 w2 : World} {base n size : Nat} {e : TypeId} {v : Value} {xs : List Value} (h : Fr M w w1) (hown : w1.ownsRow base e size v n xs) (hf : Fr (fun k => v.ownBlock = some k) w1 w2) (hM : ∀ k, base ≤ k → M k) : Fr M w w2 :=
  Fr.then_ h hf fun k _ he => hM k (hown.lt k he).1
end Go.Proofs.YtnbonhinpepgoaaGreat
end
section
set_option linter.unusedVariables false
namespace Go.Proofs.YtnbonhinpepgoaaGreat
open Go.RowKit
theorem and31 (k : Int) : Go.bits .and .u64 (IntKind.u64.wrap k) 31 = k % 32 := by
  have h0 : 0 ≤ k % 18446744073709551616 := Int.emod_nonneg _ (by decide)
  have e : IntKind.u64.wrap k = (((k % 18446744073709551616).toNat : Nat) : Int) := by
    rw [Int.toNat_of_nonneg h0]
    unfold IntKind.wrap
    simp [IntKind.signed, IntKind.bits]
  rw [e, show (31 : Int) = ((31 : Nat) : Int) from rfl, Sha.and_nat (k := .u64) rfl (by show _ < 2 ^ 64; omega) (by decide)]
  rw [show (31 : Nat) = 2 ^ 5 - 1 from rfl, Nat.and_two_pow_sub_one_eq_mod]
  omega
set_option maxHeartbeats 1000000 in
theorem rotl (x : Nat) (hx : x < Sha.M) (k : Int) (w : World) :
    Calls Tryz.prog 238 #[.int .u32 x, .int .i64 k] w fun e w' => e = .returned (.int .u32 (Sha.rot x (k % 32).toNat)) ∧ w = w' := by
  have ha := and31 k
  go_enter Tryz.func238, Tryz.ntmps238
  go_wp2
  go_ret
  refine ⟨?_, rfl⟩
  obtain ⟨s, hs, hk⟩ : ∃ s : Nat, s < 32 ∧ k % 32 = (s : Int) := ⟨(k % 32).toNat, by omega, by omega⟩
  have e1 : ((x : Int) * 2 ^ s % 4294967296) = (((x * 2 ^ s) % Sha.M : Nat) : Int) := by rw [Int.natCast_emod, Int.natCast_mul, Int.natCast_pow]; rfl
  have e2 : ((x : Int) / 2 ^ (32 - (s : Int)).toNat) = ((x / 2 ^ (32 - s) : Nat) : Int) := by
    rw [show (32 - (s : Int)).toNat = 32 - s by omega]
    rw [Int.natCast_ediv, Int.natCast_pow]; rfl
  rw [hk, Int.toNat_natCast, e1, e2]
  have e3 := Sha.or_nat (k := .u32) rfl (a := (x * 2 ^ s) % Sha.M) (b := x / 2 ^ (32 - s)) (Nat.mod_lt _ (by decide)) (Nat.lt_of_le_of_lt (Nat.div_le_self _ _) hx)
  show Ending.returned (.int .u32 (Go.bits .or .u32 _ _)) = _
  rw [e3]
  rfl
abbrev n8 (l : List Nat) : List Value := l.map fun x : Nat => .int .u8 (x : Int)
abbrev n32 (l : List Nat) : List Value := l.map fun x : Nat => .int .u32 (x : Int)
theorem getD_lt {b : List Nat} (hx : ∀ x ∈ b, x < 256) (j : Nat) : b.getD j 0 < 256 := by
  rw [List.getD_eq_getElem?_getD]
  cases h : b[j]? with
  | none => decide
  | some x => exact hx x (List.mem_of_getElem? h)
theorem up24 (x : Nat) (h : x < 256) : (x : Int) % 4294967296 * 16777216 % 4294967296 = ((x * 16777216 : Nat) : Int) := by omega
theorem up16 (x : Nat) (h : x < 256) : (x : Int) % 4294967296 * 65536 % 4294967296 = ((x * 65536 : Nat) : Int) := by omega
theorem up8 (x : Nat) (h : x < 256) : (x : Int) % 4294967296 * 256 % 4294967296 = ((x * 256 : Nat) : Int) := by omega
theorem up0 (x : Nat) (h : x < 256) : (x : Int) % 4294967296 = (x : Int) := by omega
theorem p32 {x : Nat} (h : x < 4294967296) : x < 2 ^ IntKind.u32.bits := h
theorem lt24 (x : Nat) (h : x < 256) : x * 16777216 < 2 ^ IntKind.u32.bits := p32 (by omega)
theorem lt16 (x : Nat) (h : x < 256) : x * 65536 < 2 ^ IntKind.u32.bits := p32 (by omega)
theorem lt8 (x : Nat) (h : x < 256) : x * 256 < 2 ^ IntKind.u32.bits := p32 (by omega)
theorem lt0 (x : Nat) (h : x < 256) : x < 2 ^ IntKind.u32.bits := p32 (by omega)
theorem word_or (b : List Nat) (i : Nat) (hx : ∀ x ∈ b, x < 256) : Go.bits .or .u32 (Go.bits .or .u32 (Go.bits .or .u32 (((b[4 * i]?.getD 0 : Nat) : Int) % 4294967296 * 16777216 % 4294967296) (((b[4 * i + 1]?.getD 0 : Nat) : Int) % 4294967296 * 65536 % 4294967296)) (((b[4 * i + 2]?.getD 0 : Nat) : Int) % 4294967296 * 256 % 4294967296)) (((b[4 * i + 3]?.getD 0 : Nat) : Int) % 4294967296) = (Sha.word b i : Nat) := by
  have h0 := getD_lt hx (4 * i)
  have h1 := getD_lt hx (4 * i + 1)
  have h2 := getD_lt hx (4 * i + 2)
  have h3 := getD_lt hx (4 * i + 3)
  unfold Sha.word
  rw [List.getD_eq_getElem?_getD] at h0 h1 h2 h3
  simp only [List.getD_eq_getElem?_getD]
  generalize b[4 * i]?.getD 0 = x0 at *
  generalize b[4 * i + 1]?.getD 0 = x1 at *
  generalize b[4 * i + 2]?.getD 0 = x2 at *
  generalize b[4 * i + 3]?.getD 0 = x3 at *
  rw [up24 x0 h0, up16 x1 h1, up8 x2 h2, up0 x3 h3]
  have l0 := lt24 x0 h0
  have l1 := lt16 x1 h1
  have l2 := lt8 x2 h2
  have l3 := lt0 x3 h3
  rw [Sha.or_nat (k := .u32) rfl l0 l1, Sha.or_nat (k := .u32) rfl (Nat.or_lt_two_pow l0 l1) l2, Sha.or_nat (k := .u32) rfl (Nat.or_lt_two_pow (Nat.or_lt_two_pow l0 l1) l2) l3]
theorem below_new (w : World) (o : Obj) : Below w.heap.size w (w.alloc o) := (Below.refl _ w).alloc (Nat.le_refl _) o
theorem below_newN (w : World) (o : Obj) (n : Nat) : Below w.heap.size w ((w.alloc o).drewN n) := ⟨(below_new w o).os, (below_new w o).tape, (below_new w o).output, (below_new w o).size, (below_new w o).block⟩
set_option maxHeartbeats 2000000 in
theorem word_any (b : List Nat) (hb : b.length = 64) (hx : ∀ x ∈ b, x < 256) (i : Nat) (hi : i < 16) (w : World) :
    Calls Tryz.prog 237 #[.agg (n8 b).toArray, .int .i64 i] w fun e w' => e = .returned (.int .u32 (Sha.word b i)) ∧ Below w.heap.size w w' := by
  have hbk : (w.alloc (.cells (n8 b).toArray 250)).heap[w.heap.size]? = some (.cells (n8 b).toArray 250 (0, 0)) := heap_alloc_new w _
  have hc : ∀ j, j < 64 → (w.alloc (.cells (n8 b).toArray 250)).cell? ⟨w.heap.size, j, none⟩ = some (.int .u8 (b.getD j 0 : Nat)) := fun j hj => by
    rw [cell_of_row _ _ _ _ _ _ hbk]
    simp [hb, hj]
  have c0 := hc (4 * i) (by omega)
  have c1 := hc (4 * i + 1) (by omega)
  have c2 := hc (4 * i + 2) (by omega)
  have c3 := hc (4 * i + 3) (by omega)
  have e0 : IntKind.i64.wrap (4 * (i : Int)) = ((4 * i : Nat) : Int) := by rw [IntWalk.i64_in _ (by omega)]; omega
  have e1 : IntKind.i64.wrap (((4 * i : Nat) : Int) + 1) = ((4 * i + 1 : Nat) : Int) := by rw [IntWalk.i64_in _ (by omega)]; omega
  have e2 : IntKind.i64.wrap (((4 * i : Nat) : Int) + 2) = ((4 * i + 2 : Nat) : Int) := by rw [IntWalk.i64_in _ (by omega)]; omega
  have e3 : IntKind.i64.wrap (((4 * i : Nat) : Int) + 3) = ((4 * i + 3 : Nat) : Int) := by rw [IntWalk.i64_in _ (by omega)]; omega
  clear hc hbk
  go_enter Tryz.func237, Tryz.ntmps237
  go_wp2
  go_region
  all_goals
    go_wp2
    go_ret
    exact ⟨congrArg (fun z => Ending.returned (.int .u32 z)) (word_or b i hx), by first | exact below_new w _ | exact below_newN w _ _⟩
end Go.Proofs.YtnbonhinpepgoaaGreat
end
section
set_option linter.unusedVariables false
namespace Go.Proofs.YtnbonhinpepgoaaGreat
open Go.RowKit
def vl (v : Sha.V) : List Nat := [v.a, v.b, v.c, v.d, v.e, v.f, v.g, v.h]
def kCells : Array Value := (n32 Sha.K).toArray
def kPairs : Array (Nat × Value) := R256K0.map fun x => match x with | (i, o) => (i, match o with | .const v => v | _ => undef)
def z64 : Array Value := #[.int .u32 0, .int .u32 0, .int .u32 0, .int .u32 0, .int .u32 0, .int .u32 0, .int .u32 0, .int .u32 0, .int .u32 0, .int .u32 0, .int .u32 0, .int .u32 0, .int .u32 0, .int .u32 0, .int .u32 0, .int .u32 0, .int .u32 0, .int .u32 0, .int .u32 0, .int .u32 0, .int .u32 0, .int .u32 0, .int .u32 0, .int .u32 0, .int .u32 0, .int .u32 0, .int .u32 0, .int .u32 0, .int .u32 0, .int .u32 0, .int .u32 0, .int .u32 0, .int .u32 0, .int .u32 0, .int .u32 0, .int .u32 0, .int .u32 0, .int .u32 0, .int .u32 0, .int .u32 0, .int .u32 0, .int .u32 0, .int .u32 0, .int .u32 0, .int .u32 0, .int .u32 0, .int .u32 0, .int .u32 0, .int .u32 0, .int .u32 0, .int .u32 0, .int .u32 0, .int .u32 0, .int .u32 0, .int .u32 0, .int .u32 0, .int .u32 0, .int .u32 0, .int .u32 0, .int .u32 0, .int .u32 0, .int .u32 0, .int .u32 0, .int .u32 0]
set_option maxRecDepth 100000
theorem consts_k : (R256K0.all fun x => match x.2 with | .const _ => true | _ => false) = true := by kernel_rfl
theorem map_k (a : Act) : (R256K0.map fun x => match x with | (i, o) => (i, a.eval o)) = kPairs := by
  unfold kPairs
  refine Array.map_congr_left fun x hx => ?_
  have h := Array.all_eq_true_iff_forall_mem.1 consts_k x hx
  obtain ⟨i, o⟩ := x
  cases o with
  | const v => rfl
  | _ => cases h
theorem build_k (w : World) : (Instr.build 296 kPairs).run Tryz.prog w = .ok (.agg kCells) w := by kernel_rfl
theorem alloc_w64 (w : World) : (Instr.alloc 296 true (.tuple #[])).run Tryz.prog w = .ok (.pointer (some ⟨w.heap.size, 0, none⟩)) (w.alloc (.cells z64 296)) := by kernel_rfl
theorem n32_cell (l : List Nat) : ∀ v ∈ n32 l, v.oneCell' = true := by
  intro v hv
  obtain ⟨x, _, rfl⟩ := List.mem_map.1 hv
  rfl
theorem there_of {w : World} {B : Nat} {cs : Array Value} {T : TypeId} (h : w.heap[B]? = some (.cells cs T (0, 0))) {o n : Nat} (hn : o + n ≤ cs.size) : w.there B o n := fun j hj => by
  rw [cell_of_row _ _ _ _ _ _ h]
  refine ⟨by simp; omega, by simp [World.frozen?, h]⟩
theorem setCells_block (b : Nat) (T : TypeId) : ∀ (vs : List Value) (pre cs : List Value) (w : World), w.heap[b]? = some (.cells (pre ++ cs).toArray T (0, 0)) → vs.length = cs.length → (w.setCells b pre.length vs).heap[b]? = some (.cells (pre ++ vs).toArray T (0, 0))
  | [], pre, cs, w, h, hl => by
    have : cs = [] := List.length_eq_zero_iff.1 hl.symm
    subst this
    exact h
  | v :: vs, pre, cs, w, h, hl => by
    obtain ⟨c, cs, rfl⟩ : ∃ c t, cs = c :: t := by
      cases cs with
      | nil => cases hl
      | cons c t => exact ⟨c, t, rfl⟩
    rw [World.setCells]
    have h1 := heap_setCell (j := pre.length) h v
    have e : (pre ++ c :: cs).toArray.setIfInBounds pre.length v = ((pre ++ [v]) ++ cs).toArray := by simp
    rw [e] at h1
    have h2 := setCells_block b T vs (pre ++ [v]) cs _ h1 (by simpa using hl)
    rw [List.length_append, List.length_singleton] at h2
    rw [h2]
    simp
theorem setCells_other {b k : Nat} (hk : k ≠ b) : ∀ (vs : List Value) (o : Nat) (w : World), (w.setCells b o vs).heap[k]? = w.heap[k]?
  | [], _, _ => rfl
  | v :: vs, o, w => by rw [World.setCells, setCells_other hk vs, Below.heap_setCell _ _ _ _ hk]
theorem setCells_size (b : Nat) : ∀ (vs : List Value) (o : Nat) (w : World), (w.setCells b o vs).heap.size = w.heap.size
  | [], _, _ => rfl
  | v :: vs, o, w => by rw [World.setCells, setCells_size b vs]; simp
theorem Fr.setCells {M : Nat → Prop} {w w' : World} (h : Fr M w w') (b : Nat) (hm : b < w.heap.size → M b) : ∀ (vs : List Value) (o : Nat) (w' : World), Fr M w w' → Fr M w (w'.setCells b o vs)
  | [], _, _, h => h
  | v :: vs, o, w', h => by rw [World.setCells]; exact Fr.setCells h b hm vs _ _ (h.setCell ⟨b, o, none⟩ v hm)
theorem info_64 : (Tryz.prog.info? 296).map (·.size) = some 64 := by kernel_rfl
theorem info_b64 : (Tryz.prog.info? 250).map (·.size) = some 64 := by kernel_rfl
def kWorld (w : World) : World := (w.alloc (.cells z64 296)).setCells w.heap.size 0 (n32 Sha.K)
theorem kWorld_size (w : World) : (kWorld w).heap.size = w.heap.size + 1 := (setCells_size _ _ _ _).trans (World.size_alloc _ _)
theorem kWorld_other (w : World) (k : Nat) (h : k < w.heap.size) : (kWorld w).heap[k]? = w.heap[k]? := (setCells_other (by omega) _ _ _).trans (Below.heap_alloc _ _ _ h)
theorem kWorld_new (w : World) : (kWorld w).heap[w.heap.size]? = some (.cells kCells 296 (0, 0)) := by
  have h1 : (w.alloc (.cells z64 296)).heap[w.heap.size]? = some (.cells ([] ++ n32 (List.replicate 64 0)).toArray 296 (0, 0)) := heap_alloc_new w _
  exact setCells_block w.heap.size 296 (n32 Sha.K) [] (n32 (List.replicate 64 0)) _ h1 (by decide)
theorem kWorld_fr (M : Nat → Prop) (w w' : World) (h : Fr M w w') : Fr M w (kWorld w') := by
  unfold kWorld
  have := h.size
  exact Fr.setCells h _ (fun h2 => by omega) _ _ _ (h.alloc _)
section
variable {ops : Array Oper} {rest : List Oper} {o : Oper} {a : Act} {Q : Exit → Act → World → Prop} {W : World}
theorem at_dst {N : Tmp} (_hN : o.dst = some N) (h : wpList Tryz.prog ops Q (o :: rest) a W) : wpList Tryz.prog ops Q (o :: rest) a W := h
theorem at_store {t : TypeId} {p : Tmp} {v : Operand} (_ho : o.op = .store t (.tmp p) v) (h : wpList Tryz.prog ops Q (o :: rest) a W) : wpList Tryz.prog ops Q (o :: rest) a W := h
theorem wpList_run (hgd : o.guard = none) (v : Value) (W' : World) (hrun : (execOp a.eval o).run Tryz.prog W = .ok (.value v) W') (h : wpList Tryz.prog ops Q rest (a.put o.dst v) W') : wpList Tryz.prog ops Q (o :: rest) a W :=
  wpList_plain hgd fun K hK => by
    unfold Oper.wp
    rw [hrun]
    exact hK _ _ h
theorem exec_build (ho : o.op = .build 296 R256K0) : (execOp a.eval o).run Tryz.prog W = .ok (.value (.agg kCells)) W := by
  unfold execOp
  rw [ho]
  show (do pure (Next.value (← Instr.build 296 (R256K0.map fun x => match x with | (i, o) => (i, a.eval o)))) : Sem Next).run _ _ = _
  rw [map_k, Sem.run_bind, build_k]
  rfl
theorem exec_alloc (ho : o.op = .alloc 296) : (execOp a.eval o).run Tryz.prog W = .ok (.value (.pointer (some ⟨W.heap.size, 0, none⟩))) (W.alloc (.cells z64 296)) := by
  unfold execOp
  rw [ho]
  show (do pure (Next.value (← Instr.alloc 296 true (.tuple #[]))) : Sem Next).run _ _ = _
  rw [Sem.run_bind, alloc_w64]
  rfl
theorem wpList_gen {ops : Array Oper} {rest : List Oper} {o : Oper} {a : Act} {Q : Exit → Act → World → Prop} {W : World} (Φ : World → Prop) (hΦ : Φ W) (h : ∀ W', Φ W' → wpList Tryz.prog ops Q (o :: rest) a W') : wpList Tryz.prog ops Q (o :: rest) a W := h W hΦ
end
end Go.Proofs.YtnbonhinpepgoaaGreat
end
section
set_option linter.unusedVariables false
namespace Go.Proofs.YtnbonhinpepgoaaGreat
open Go.RowKit
structure Dk where
  st : List (List Nat)
  ca : List (Nat × List Nat)
  down : Bool
  armed : Int
structure IsSec (s : List Nat) : Prop where
  len : s.length = 512
  lt : ∀ x ∈ s, x < 256
structure Dk.Ok (D : Dk) : Prop where
  lo : 64 ≤ D.st.length
  hi : D.st.length ≤ 4096
  sec : ∀ s ∈ D.st, IsSec s
  cac : ∀ p ∈ D.ca, p.1 < D.st.length ∧ IsSec p.2
  a0 : -1 ≤ D.armed
  a1 : D.armed < 9223372036854775808
def secCells (l : List (List Nat)) : List Value := l.flatMap fun s => n8 s
def wrCell (p : Nat × List Nat) : List Value := .int .i64 (p.1 : Int) :: n8 p.2
def wrCells (l : List (Nat × List Nat)) : List Value := l.flatMap wrCell
def bw (b : Bool) : Value := .int .u32 (if b then 1 else 0)
structure DRep (g gs : Nat) (cv : Value) (D : Dk) (w : World) : Prop where
  blk : ∃ a b : Int, w.heap[g]? = some (.cells #[.slice (some ⟨gs, 0, none⟩) D.st.length D.st.length, cv, bw D.down, .int .i64 D.armed, .int .u64 a, .int .u64 b] 145 (0, 0))
  sts : w.heap[gs]? = some (.cells (secCells D.st).toArray 167 (0, 0))
  own : w.ownsRow 0 169 513 cv D.ca.length (wrCells D.ca)
  ne : g ≠ gs
  neg : cv.ownBlock ≠ some g
  nes : cv.ownBlock ≠ some gs
  ok : D.Ok
def Foot (g gs : Nat) (cv : Value) (k : Nat) : Prop := k = g ∨ k = gs ∨ cv.ownBlock = some k
theorem own_lt {w : World} {base n size : Nat} {e : TypeId} {v : Value} {xs : List Value} (h : w.ownsRow base e size v n xs) {k : Nat} (hk : v.ownBlock = some k) : k < w.heap.size := (h.lt k hk).2
theorem DRep.lt {g gs : Nat} {cv : Value} {D : Dk} {w : World} (h : DRep g gs cv D w) {k : Nat} (hk : Foot g gs cv k) : k < w.heap.size := by
  obtain ⟨a, b, hb⟩ := h.blk
  rcases hk with rfl | rfl | hk
  · exact block_lt hb
  · exact block_lt h.sts
  · exact own_lt h.own hk
theorem DRep.fr {g gs : Nat} {cv : Value} {D : Dk} {w w' : World} {M : Nat → Prop} (h : DRep g gs cv D w) (hf : Fr M w w') (hM : ∀ k, Foot g gs cv k → ¬ M k) : DRep g gs cv D w' := by
  obtain ⟨a, b, hb⟩ := h.blk
  exact ⟨⟨a, b, hf.heap hb (hM g (.inl rfl))⟩, hf.heap h.sts (hM gs (.inr (.inl rfl))), own_fr h.own hf (fun k _ _ hk => hM k (.inr (.inr hk))), h.ne, h.neg, h.nes, h.ok⟩
theorem bool_load (a : Addr) (b : Bool) (w : World) (hc : w.cell? a = some (bw b)) :
    Calls Tryz.prog 83 #[.pointer (some a)] w fun e w' => e = .returned (.bool b) ∧ w = w' := by
  have hl : (callFunc 150 #[.pointer (some a)]).run Tryz.prog w = _ := run_call_load (P := Tryz.prog) Tryz.func150 (by kernel_rfl) (by kernel_rfl) (by kernel_rfl) .u32 (by kernel_rfl) (w := w) (a := a) hc
  cases b
  all_goals
    simp only [Bool.false_eq_true, if_false, if_true] at hl
    go_enter Tryz.func83, Tryz.ntmps83
    go_wp2
    go_ret
    exact ⟨rfl, rfl⟩
theorem bool_store (a : Addr) (b : Bool) (x : Value) (w : World) (hc : w.cell? a = some x) (hz : w.frozen? a = false) :
    Calls Tryz.prog 89 #[.pointer (some a), .bool b] w fun e w' => e = .returned (.tuple #[]) ∧ w' = w.drew.setCell a (bw b) := by
  have hc' : w.drew.cell? a = some x := by go_simp
  have hz' : w.drew.frozen? a = false := by go_simp
  cases b
  all_goals
    have hst := fun y => run_call_store (P := Tryz.prog) Tryz.func154 (by kernel_rfl) (by kernel_rfl) (by kernel_rfl) (by kernel_rfl) (k := .u32) (y := y) hc' hz'
    go_enter Tryz.func89, Tryz.ntmps89
    go_wp2
    go_region_calls
    all_goals (go_end0; exact ⟨rfl, rfl⟩)
theorem u64_add (a : Addr) (x : Int) (w : World) (hc : w.cell? a = some (.int .u64 x)) (hz : w.frozen? a = false) :
    Calls Tryz.prog 202 #[.pointer (some a), .int .u64 1] w fun e w' => ∃ y, e = .returned (.int .u64 y) ∧ w' = w.setCell a (.int .u64 y) := by
  have hadd := run_call_add (P := Tryz.prog) Tryz.func226 (by kernel_rfl) (by kernel_rfl) (by kernel_rfl) .u64 (by kernel_rfl) (y := 1) (s := IntKind.u64.wrap (x + 1)) hc hz (by simp [go_sem])
  go_enter Tryz.func202, Tryz.ntmps202
  go_wp2
  go_ret
  exact ⟨_, rfl, rfl⟩
end Go.Proofs.YtnbonhinpepgoaaGreat
end
section
set_option linter.unusedVariables false
namespace Go.Proofs.YtnbonhinpepgoaaGreat
open Go.RowKit
def Dk.may (D : Dk) (i : Int) : Int := if D.down then 51 else if i < 0 ∨ (D.st.length : Int) ≤ i then 50 else 0
section
variable {g gs : Nat} {cv : Value} {D : Dk} {w : World}
theorem DRep.c0 (h : DRep g gs cv D w) : w.cell? ⟨g, 0, none⟩ = some (.slice (some ⟨gs, 0, none⟩) D.st.length D.st.length) := by
  obtain ⟨a, b, hb⟩ := h.blk
  exact cell_of_row w g 0 _ _ _ hb
theorem DRep.c1 (h : DRep g gs cv D w) : w.cell? ⟨g, 1, none⟩ = some cv := by
  obtain ⟨a, b, hb⟩ := h.blk
  exact cell_of_row w g 1 _ _ _ hb
theorem DRep.c2 (h : DRep g gs cv D w) : w.cell? ⟨g, 2, none⟩ = some (bw D.down) := by
  obtain ⟨a, b, hb⟩ := h.blk
  exact cell_of_row w g 2 _ _ _ hb
theorem DRep.c3 (h : DRep g gs cv D w) : w.cell? ⟨g, 3, none⟩ = some (.int .i64 D.armed) := by
  obtain ⟨a, b, hb⟩ := h.blk
  exact cell_of_row w g 3 _ _ _ hb
theorem DRep.z (h : DRep g gs cv D w) (j : Nat) : w.frozen? ⟨g, j, none⟩ = false := by
  obtain ⟨a, b, hb⟩ := h.blk
  simp [World.frozen?, hb]
theorem may_any (h : DRep g gs cv D w) (i : Int) (hi0 : -9223372036854775808 ≤ i) (hi1 : i < 9223372036854775808) :
    Calls Tryz.prog 145 #[.pointer (some ⟨g, 0, none⟩), .int .i64 i] w fun e w' => e = .returned (.int .i64 (D.may i)) ∧ w = w' := by
  have c0 := h.c0
  have c2 := h.c2
  have hlen := h.ok.hi
  clear h
  obtain ⟨st, ca, down, armed⟩ := D
  unfold Dk.may
  simp only at c0 c2 hlen ⊢
  generalize st.length = n at *
  cases down
  · have hb := bool_load ⟨g, 2, none⟩ false w c2
    simp only [Bool.false_eq_true, if_false]
    clear c2
    by_cases h1 : i < 0
    · rw [if_pos (.inl h1)]
      go_enter Tryz.func145, Tryz.ntmps145
      go_wp2_with (go_at_call 83; refine hb.mono ?_; rintro e w' ⟨rfl, rfl⟩)
      go_ret
      exact ⟨rfl, rfl⟩
    · have h1' : decide (i < 0) = false := decide_eq_false h1
      by_cases h2 : (n : Int) ≤ i
      · rw [if_pos (.inr h2)]
        go_enter Tryz.func145, Tryz.ntmps145
        go_wp2_with (go_at_call 83; refine hb.mono ?_; rintro e w' ⟨rfl, rfl⟩)
        go_ret
        exact ⟨rfl, rfl⟩
      · rw [if_neg (by omega)]
        go_enter Tryz.func145, Tryz.ntmps145
        go_wp2_with (go_at_call 83; refine hb.mono ?_; rintro e w' ⟨rfl, rfl⟩)
        go_ret
        exact ⟨rfl, rfl⟩
  · have hb := bool_load ⟨g, 2, none⟩ true w c2
    simp only [if_true]
    clear c2
    go_enter Tryz.func145, Tryz.ntmps145
    go_wp2_with (go_at_call 83; refine hb.mono ?_; rintro e w' ⟨rfl, rfl⟩)
    go_ret
    exact ⟨rfl, rfl⟩
theorem size_any (h : DRep g gs cv D w) :
    Calls Tryz.prog 90 #[.pointer (some ⟨g, 0, none⟩)] w fun e w' => e = .returned (.int .i64 (D.st.length : Int)) ∧ w = w' := by
  have c0 := h.c0
  have hlen := h.ok.hi
  clear h
  generalize D.st.length = n at *
  go_enter Tryz.func90, Tryz.ntmps90
  go_wp2
  go_ret
  exact ⟨rfl, rfl⟩
end
theorem heap_alloc_new' {w : World} {o : Obj} {k : Nat} (h : w.heap.size = k) : (w.alloc o).heap[k]? = some o := h ▸ heap_alloc_new w o
theorem info_sector : (Tryz.prog.info? 167).map (fun i => (i.zero.map (·.cells.toList), i.size, i.bytes)) = some (some (List.replicate 512 (.int .u8 0)), 512, 512) := by kernel_rfl
theorem info_sector' : ∃ i z, Tryz.prog.info? 167 = some i ∧ i.zero = some z ∧ z.cells.toList = List.replicate 512 (.int .u8 0) ∧ i.size = 512 ∧ i.bytes = 512 := by
  have h := info_sector
  generalize List.replicate 512 (Value.int .u8 0) = q at h ⊢
  generalize Tryz.prog.info? 167 = o at h
  cases o with
  | none => simp at h
  | some i =>
    simp only [Option.map_some, Option.some.injEq, Prod.mk.injEq] at h
    obtain ⟨h1, h2, h3⟩ := h
    cases hz : i.zero with
    | none => simp [hz] at h1
    | some z =>
      simp only [hz, Option.map_some, Option.some.injEq] at h1
      exact ⟨i, z, rfl, hz, h1, h2, h3⟩
theorem made_zero (z : Array Value) (m : Nat) (n : Nat) (hz : z.toList = List.replicate m (.int .u8 0)) (hm : 0 < m) : madeCells z n = (List.replicate n (.int .u8 0)).toArray := by
  have hs : z.size = m := by rw [← Array.length_toList, hz, List.length_replicate]
  unfold madeCells
  apply Array.ext
  · simp
  · intro j h1 h2
    have hlt : j % z.size < z.size := Nat.mod_lt _ (by omega)
    rw [Array.getElem_map, Array.getElem_range, getElem!_pos z _ hlt, ← Array.getElem_toList]
    simp only [hz, List.getElem_replicate, List.getElem_toArray]
theorem secCells_zero (n : Nat) : secCells (List.replicate n (List.replicate 512 0)) = List.replicate (n * 512) (.int .u8 0) := by
  unfold secCells
  induction n with
  | zero => rfl
  | succ n ih => rw [List.replicate_succ, List.flatMap_cons, ih, n8, List.map_replicate, show (Value.int IntKind.u8 ((0 : Nat) : Int)) = .int .u8 0 from rfl, List.replicate_append_replicate, show 512 + n * 512 = (n + 1) * 512 by omega]
set_option maxHeartbeats 400000 in
theorem disk_new (n : Nat) (h0 : 64 ≤ n) (h1 : n ≤ 4096) (w : World) :
    Calls Tryz.prog 15 #[.int .i64 n] w fun e w' => ∃ g gs, e = .returned (.tuple #[.pointer (some ⟨g, 0, none⟩), .int .i64 0]) ∧ DRep g gs (.slice none 0 0) ⟨List.replicate n (List.replicate 512 0), [], false, -1⟩ w' ∧ w.heap.size ≤ g ∧ w.heap.size ≤ gs ∧ Fr (fun _ => False) w w' := by
  have d0 : decide ((n : Int) < 64) = false := decide_eq_false (by omega)
  have d1 : decide ((n : Int) > 4096) = false := decide_eq_false (by omega)
  obtain ⟨i, z, hi, hz, hzc, hsz, hby⟩ := info_sector'
  have hrun : ∀ W, (Instr.makeSlice 134 (.int .i64 n) (.int .i64 n)).run Tryz.prog W = .ok (.slice (some ⟨W.heap.size, 0, none⟩) n n) (W.alloc (.cells (secCells (List.replicate n (List.replicate 512 0))).toArray 167)) := fun W => by
    have := run_make (P := Tryz.prog) W 134 167 i z Tryz.underlying134 hi hz .i64 .i64 n n (by omega) (by omega) (by rw [hby]; omega) (by omega)
    rw [hsz, made_zero _ 512 _ hzc (by decide)] at this
    rw [secCells_zero]
    exact this
  generalize hsec : (secCells (List.replicate n (List.replicate 512 0))).toArray = sc at hrun
  have HS := Lib.hid hsec
  clear hsec hi hz hzc hsz hby
  go_enter Tryz.func15, Tryz.ntmps15
  go_wp2
  go_ret2
  refine ⟨w.heap.size + 1, w.heap.size, rfl, ⟨⟨0, 0, ?_⟩, ?_, World.ownsRow_nil _ _ _ _, by omega, by simp [Value.ownBlock], by simp [Value.ownBlock], ⟨?_, ?_, ?_, ?_, Int.le_refl _, (by omega : (-1 : Int) < 9223372036854775808)⟩⟩, by omega, by omega, ((Fr.refl _ _).alloc _).alloc _⟩
  · rw [List.length_replicate]
    exact heap_alloc_new' (by simp)
  · rw [HS.out]
    rw [Below.heap_alloc _ _ _ (by simp)]
    exact heap_alloc_new w _
  · simp only [List.length_replicate]; omega
  · simp only [List.length_replicate]; omega
  · intro s hs
    obtain rfl := List.eq_of_mem_replicate hs
    exact ⟨List.length_replicate .., fun x hx => by have := List.eq_of_mem_replicate hx; omega⟩
  · intro p hp; cases hp
end Go.Proofs.YtnbonhinpepgoaaGreat
end
section
set_option linter.unusedVariables false
namespace Go.Proofs.YtnbonhinpepgoaaGreat
open Go.RowKit
theorem rotl2 (x : Nat) (hx : x < Sha.M) (k : Int) (w : World) :
    Calls Tryz.prog 238 #[.int .u32 x, .int .i64 k] w fun e w' => e = .returned (.int .u32 (Sha.rot x (k % 32).toNat)) ∧ w' = w := (rotl x hx k w).mono fun _ _ h => ⟨h.1, h.2.symm⟩
theorem sched_len (b : List Nat) : ∀ n, (Sha.sched b n).length = n
  | 0 => rfl
  | n + 1 => by rw [Sha.sched, List.length_append, sched_len b n, List.length_singleton]
theorem load_b64 (b : List Nat) (hb : b.length = 64) : (Tryz.prog.info? 250).map (·.size) = some (n8 b).length := by rw [List.length_map, hb]; exact info_b64
theorem range_of {w : World} {B : Nat} {cs : List Value} {T : TypeId} (h : w.heap[B]? = some (.cells cs.toArray T (0, 0))) : w.rangeAt B 0 cs := fun j v hv => by
  rw [cell_of_row _ _ _ _ _ _ h]
  simpa using hv
structure S1 (w : World) (g B2 : Nat) (b : List Nat) (v : Sha.V) (rest : List Value) (T : TypeId) (ws : List Nat) (wr : World) : Prop where
  h0 : wr.heap[w.heap.size]? = some (.cells (n8 b).toArray 250 (0, 0))
  h1 : wr.heap[w.heap.size + 1]? = some (.cells kCells 296 (0, 0))
  h2 : wr.heap[B2]? = some (.cells (n32 (ws ++ List.replicate (64 - ws.length) 0)).toArray 296 (0, 0))
  h3 : wr.heap[g]? = some (.cells (n32 (vl v) ++ rest).toArray T (0, 0))
  hB : w.heap.size + 2 ≤ B2
  hg : g < w.heap.size
  fr : Fr (fun k => k = g) w wr
theorem S1.below {w : World} {g B2 : Nat} {b : List Nat} {v : Sha.V} {rest : List Value} {T : TypeId} {ws : List Nat} {wr wr' : World} (h : S1 w g B2 b v rest T ws wr) (hb : Below wr.heap.size wr wr') : S1 w g B2 b v rest T ws wr' :=
  ⟨(hb.block _ (block_lt h.h0)).trans h.h0, (hb.block _ (block_lt h.h1)).trans h.h1, (hb.block _ (block_lt h.h2)).trans h.h2, (hb.block _ (block_lt h.h3)).trans h.h3, h.hB, h.hg, h.fr.then_ (Fr.of_below0 hb) (fun _ _ h => h.elim)⟩
theorem S1.put {w : World} {g B2 : Nat} {b : List Nat} {v : Sha.V} {rest : List Value} {T : TypeId} {ws : List Nat} {wr : World} (h : S1 w g B2 b v rest T ws wr) (hl : ws.length < 64) (x : Nat) : S1 w g B2 b v rest T (ws ++ [x]) (wr.setCell ⟨B2, ws.length, none⟩ (.int .u32 x)) := by
  have hB := h.hB
  have hg := h.hg
  have hs := h.fr.size
  refine ⟨?_, ?_, ?_, ?_, h.hB, h.hg, h.fr.setCell ⟨B2, ws.length, none⟩ _ (fun h2 => by have : B2 < w.heap.size := h2; omega)⟩
  · rw [Below.heap_setCell _ _ _ _ (by show _ ≠ B2; omega)]; exact h.h0
  · rw [Below.heap_setCell _ _ _ _ (by show _ ≠ B2; omega)]; exact h.h1
  · rw [heap_setCell h.h2]
    congr 2
    have e : List.replicate (64 - ws.length) 0 = 0 :: List.replicate (64 - (ws ++ [x]).length) 0 := by
      rw [List.length_append, List.length_singleton, show 64 - ws.length = (64 - (ws.length + 1)) + 1 by omega, List.replicate_succ]
    rw [e]
    simp
  · rw [Below.heap_setCell _ _ _ _ (by show _ ≠ B2; omega)]; exact h.h3
theorem S1.cell {w : World} {g B2 : Nat} {b : List Nat} {v : Sha.V} {rest : List Value} {T : TypeId} {ws : List Nat} {wr : World} (h : S1 w g B2 b v rest T ws wr) (hl : ws.length ≤ 64) (j : Nat) (hj : j < 64) : wr.cell? ⟨B2, j, none⟩ = some (.int .u32 ((ws.getD j 0 : Nat) : Int)) ∧ wr.frozen? ⟨B2, j, none⟩ = false := by
  rw [cell_of_row _ _ _ _ _ _ h.h2]
  refine ⟨?_, by simp [World.frozen?, h.h2]⟩
  by_cases hjw : j < ws.length
  · simp [List.getElem?_append_left, hjw]
  · rw [List.getElem?_toArray, List.getElem?_map, List.getElem?_append_right (by omega), List.getElem?_replicate_of_lt (by omega)]
    simp [List.getElem?_eq_none (Nat.le_of_not_lt hjw)]
structure S2 (w : World) (g B3 : Nat) (v : Sha.V) (rest : List Value) (T : TypeId) (u : Sha.V) (wr : World) : Prop where
  h1 : wr.heap[w.heap.size + 1]? = some (.cells kCells 296 (0, 0))
  hv : wr.heap[B3]? = some (.cells (n32 (vl u)).toArray 249 (0, 0))
  h3 : wr.heap[g]? = some (.cells (n32 (vl v) ++ rest).toArray T (0, 0))
  hB : w.heap.size + 2 ≤ B3
  hg : g < w.heap.size
  fr : Fr (fun k => k = g) w wr
theorem S1.split {w : World} {g B2 : Nat} {b : List Nat} {v : Sha.V} {rest : List Value} {T : TypeId} {ws us : List Nat} {wr : World} (h : S1 w g B2 b v rest T ws wr) (h2 : wr.heap[B2]? = some (.cells (n32 us).toArray 296 (0, 0))) : S1 w g B2 b v rest T ws wr ∧ wr.heap[B2]? = some (.cells (n32 us).toArray 296 (0, 0)) := ⟨h, h2⟩
theorem range_pre {w : World} {B : Nat} {cs ds : List Value} {T : TypeId} (h : w.heap[B]? = some (.cells (cs ++ ds).toArray T (0, 0))) : w.rangeAt B 0 cs := fun j v hv => by
  rw [cell_of_row _ _ _ _ _ _ h]
  have hj : j < cs.length := (List.getElem?_eq_some_iff.1 hv).1
  simpa [List.getElem?_append_left hj] using hv
theorem info_8 : (Tryz.prog.info? 249).map (·.size) = some 8 := by kernel_rfl
def z8 : Array Value := #[.int .u32 0, .int .u32 0, .int .u32 0, .int .u32 0, .int .u32 0, .int .u32 0, .int .u32 0, .int .u32 0]
theorem there8 (w : World) (cs : List Value) (h : cs.length = 8) : (w.alloc (.cells z8 249)).there w.heap.size 0 cs.toArray.size := there_of (heap_alloc_new _ _) (by rw [List.size_toArray, h]; decide)
theorem info8 (cs : List Value) (h : cs.length = 8) : (Tryz.prog.info? 249).map (·.size) = some cs.toArray.size := by rw [List.size_toArray, h]; exact info_8
theorem info8l (cs : List Value) (h : cs.length = 8) : (Tryz.prog.info? 249).map (·.size) = some cs.length := by rw [h]; exact info_8
theorem alloc_w8 (w : World) : (Instr.alloc 249 true (.tuple #[])).run Tryz.prog w = .ok (.pointer (some ⟨w.heap.size, 0, none⟩)) (w.alloc (.cells z8 249)) := by kernel_rfl
theorem exec_alloc8 {o : Oper} {a : Act} {W : World} (ho : o.op = .alloc 249) : (execOp a.eval o).run Tryz.prog W = .ok (.value (.pointer (some ⟨W.heap.size, 0, none⟩))) (W.alloc (.cells z8 249)) := by
  unfold execOp
  rw [ho]
  show (do pure (Next.value (← Instr.alloc 249 true (.tuple #[]))) : Sem Next).run _ _ = _
  rw [Sem.run_bind, alloc_w8]
  rfl
theorem load_w64 (ws : List Nat) (h : ws.length = 64) : (Tryz.prog.info? 296).map (·.size) = some (n32 ws).length := by rw [List.length_map, h]; exact info_64
theorem start2 {w : World} {g B2 : Nat} {b : List Nat} {v : Sha.V} {rest : List Value} {T : TypeId} {ws us : List Nat} {wr : World} (h : S1 w g B2 b v rest T ws wr) (h2 : wr.heap[B2]? = some (.cells (n32 us).toArray 296 (0, 0))) :
    S2 w g wr.heap.size v rest T v ((wr.alloc (.cells z8 249)).setCells wr.heap.size 0 (n32 (vl v))) ∧ ((wr.alloc (.cells z8 249)).setCells wr.heap.size 0 (n32 (vl v))).heap[B2]? = some (.cells (n32 us).toArray 296 (0, 0)) := by
  have l1 := block_lt h.h1
  have l3 := block_lt h.h3
  have l2 := block_lt h2
  have hB := h.hB
  have hs := h.fr.size
  have hn : (wr.alloc (.cells z8 249)).heap[wr.heap.size]? = some (.cells ([] ++ z8.toList).toArray 249 (0, 0)) := heap_alloc_new wr _
  refine ⟨⟨(setCells_other (by omega) _ _ _).trans ((Below.heap_alloc _ _ _ l1).trans h.h1), setCells_block wr.heap.size _ (n32 (vl v)) [] z8.toList _ hn rfl, (setCells_other (by omega) _ _ _).trans ((Below.heap_alloc _ _ _ l3).trans h.h3), by omega, h.hg, ?_⟩, (setCells_other (by omega) _ _ _).trans ((Below.heap_alloc _ _ _ l2).trans h2)⟩
  exact Fr.setCells h.fr _ (fun h9 => by omega) _ _ _ (h.fr.alloc _)
theorem S2.drewN {w : World} {g B3 : Nat} {v : Sha.V} {rest : List Value} {T : TypeId} {u : Sha.V} {wr : World} (h : S2 w g B3 v rest T u wr) (n : Nat) : S2 w g B3 v rest T u (wr.drewN n) := ⟨h.h1, h.hv, h.h3, h.hB, h.hg, h.fr.drewN n⟩
theorem S2.cells {w : World} {g B3 : Nat} {v : Sha.V} {rest : List Value} {T : TypeId} {u : Sha.V} {wr : World} (h : S2 w g B3 v rest T u wr) :
    wr.cell? ⟨B3, 0, none⟩ = some (.int .u32 (u.a : Int)) ∧ wr.cell? ⟨B3, 1, none⟩ = some (.int .u32 (u.b : Int)) ∧ wr.cell? ⟨B3, 2, none⟩ = some (.int .u32 (u.c : Int)) ∧ wr.cell? ⟨B3, 3, none⟩ = some (.int .u32 (u.d : Int)) ∧
    wr.cell? ⟨B3, 4, none⟩ = some (.int .u32 (u.e : Int)) ∧ wr.cell? ⟨B3, 5, none⟩ = some (.int .u32 (u.f : Int)) ∧ wr.cell? ⟨B3, 6, none⟩ = some (.int .u32 (u.g : Int)) ∧ wr.cell? ⟨B3, 7, none⟩ = some (.int .u32 (u.h : Int)) := by
  simp only [cell_of_row _ _ _ _ _ _ h.hv]
  simp [vl]
theorem S2.there {w : World} {g B3 : Nat} {v : Sha.V} {rest : List Value} {T : TypeId} {u : Sha.V} {wr : World} (h : S2 w g B3 v rest T u wr) : wr.there B3 0 8 := there_of h.hv (by simp [vl])
theorem S2.kcell {w : World} {g B3 : Nat} {v : Sha.V} {rest : List Value} {T : TypeId} {u : Sha.V} {wr : World} (h : S2 w g B3 v rest T u wr) (n : Nat) (hn : n < 64) : wr.cell? ⟨w.heap.size + 1, n, none⟩ = some (.int .u32 ((Sha.K.getD n 0 : Nat) : Int)) := by
  rw [cell_of_row _ _ _ _ _ _ h.h1]
  have : n < Sha.K.length := hn
  simp [kCells, List.getD_eq_getElem?_getD, this]
theorem S2.put {w : World} {g B3 : Nat} {v : Sha.V} {rest : List Value} {T : TypeId} {u : Sha.V} {wr : World} (h : S2 w g B3 v rest T u wr) (u' : Sha.V) : S2 w g B3 v rest T u' (wr.setCells B3 0 (n32 (vl u'))) := by
  have hB := h.hB
  have hg := h.hg
  have hs := h.fr.size
  exact ⟨(setCells_other (by omega) _ _ _).trans h.h1, setCells_block B3 _ (n32 (vl u')) [] (n32 (vl u)) wr h.hv rfl, (setCells_other (by omega) _ _ _).trans h.h3, h.hB, h.hg, Fr.setCells h.fr _ (fun h9 => by omega) _ _ _ h.fr⟩
structure S3 (w : World) (g B3 : Nat) (v : Sha.V) (rest : List Value) (T : TypeId) (u : Sha.V) (i : Nat) (wr : World) : Prop where
  hv : wr.heap[B3]? = some (.cells (n32 (vl u)).toArray 249 (0, 0))
  h3 : wr.heap[g]? = some (.cells (n32 ((vl (v.add u)).take i ++ (vl v).drop i) ++ rest).toArray T (0, 0))
  hB : w.heap.size + 2 ≤ B3
  hg : g < w.heap.size
  fr : Fr (fun k => k = g) w wr
theorem S3.start {w : World} {g B3 : Nat} {v : Sha.V} {rest : List Value} {T : TypeId} {u : Sha.V} {wr : World} (h : S2 w g B3 v rest T u wr) : S3 w g B3 v rest T u 0 wr := ⟨h.hv, h.h3, h.hB, h.hg, h.fr⟩
theorem add_get (v u : Sha.V) : ∀ i, i < 8 → (vl (v.add u)).getD i 0 = ((vl v).getD i 0 + (vl u).getD i 0) % Sha.M
  | 0, _ | 1, _ | 2, _ | 3, _ | 4, _ | 5, _ | 6, _ | 7, _ => rfl
  | n + 8, h => by omega
theorem S3.cell {w : World} {g B3 : Nat} {v : Sha.V} {rest : List Value} {T : TypeId} {u : Sha.V} {i : Nat} {wr : World} (h : S3 w g B3 v rest T u i wr) (hi : i < 8) :
    ∃ p q r : Nat, wr.cell? ⟨g, i, none⟩ = some (.int .u32 (p : Int)) ∧ wr.frozen? ⟨g, i, none⟩ = false ∧ wr.cell? ⟨B3, i, none⟩ = some (.int .u32 (q : Int)) ∧ ∀ n, S3 w g B3 v rest T u (i + 1) ((wr.drewN n).setCell ⟨g, i, none⟩ (.int .u32 (((p + q) % Sha.M : Nat) : Int))) := by
  have hB := h.hB
  have hg := h.hg
  have hl : (vl (v.add u)).length = 8 := rfl
  have hlv : (vl v).length = 8 := rfl
  refine ⟨(vl v).getD i 0, (vl u).getD i 0, 0, ?_, by simp [World.frozen?, h.h3], ?_, fun n => ?_⟩
  · rw [cell_of_row _ _ _ _ _ _ h.h3, List.getElem?_toArray, List.getElem?_append_left (by simp [hl, hlv]; omega), List.getElem?_map, List.getElem?_append_right (by simp [hl]; omega)]
    simp [hl, Nat.min_eq_left (Nat.le_of_lt hi), List.getD_eq_getElem?_getD, hlv, hi]
  · rw [cell_of_row _ _ _ _ _ _ h.hv]
    have : i < (vl u).length := hi
    simp [List.getD_eq_getElem?_getD, this]
  · rw [← add_get v u i hi]
    refine ⟨?_, ?_, h.hB, h.hg, (h.fr.drewN n).setCell ⟨g, i, none⟩ _ (fun _ => rfl)⟩
    · rw [Below.heap_setCell _ _ _ _ (by show B3 ≠ g; omega)]; exact h.hv
    · rw [heap_setCell (w := wr.drewN n) h.h3]
      congr 2
      have e1 : (vl v).drop i = (vl v).getD i 0 :: (vl v).drop (i + 1) := by
        rw [List.drop_eq_getElem_cons (by omega), List.getD_eq_getElem?_getD, List.getElem?_eq_getElem (by omega)]; rfl
      have e2 : (vl (v.add u)).take (i + 1) = (vl (v.add u)).take i ++ [(vl (v.add u)).getD i 0] := by
        rw [List.take_succ_eq_append_getElem (by omega), List.getD_eq_getElem?_getD, List.getElem?_eq_getElem (by omega)]; rfl
      rw [e1, e2]
      have e3 : ((vl (v.add u)).take i).length = i := by simp [hl]; omega
      simp only [List.setIfInBounds_toArray, List.map_append, List.map_cons, List.append_assoc, List.cons_append]
      rw [List.set_append_right _ _ (by simp [hl]; omega)]
      simp [hl, Nat.min_eq_left (Nat.le_of_lt hi)]
structure VOk (v : Sha.V) : Prop where
  a : v.a < Sha.M
  b : v.b < Sha.M
  c : v.c < Sha.M
  d : v.d < Sha.M
  e : v.e < Sha.M
  f : v.f < Sha.M
  g : v.g < Sha.M
  h : v.h < Sha.M
theorem next_ok {v : Sha.V} (h : VOk v) (k x : Nat) : VOk (v.next k x) := ⟨Nat.mod_lt _ (by decide), h.a, h.b, h.c, Nat.mod_lt _ (by decide), h.e, h.f, h.g⟩
theorem rounds_ok {ws : List Nat} (hw : ∀ z ∈ ws, z < Sha.M) {v : Sha.V} (h : VOk v) : ∀ n, VOk (Sha.rounds ws v n)
  | 0 => h
  | n + 1 => next_ok (rounds_ok hw h n) _ _
theorem run_index64 (cs : List Value) (n : Nat) (x : Value) (W : World) (hn : n < 64) (hx : cs[n]? = some x) : (Instr.index 296 (.agg cs.toArray) (.int .i64 (n : Int))).run Tryz.prog W = .ok x W := by
  have hu := Tryz.underlying296
  have hu2 := Tryz.underlying138
  have b0 : (0 : Int) ≤ (n : Int) := by omega
  have b1 : (n : Int) < 64 := by omega
  unfold Instr.index
  go_simp
theorem exec_index {o : Oper} {a : Act} {W : World} (cs : List Value) (n : Nat) (x : Value) {p q : Operand} (ho : o.op = .index 296 p q) (hp : a.eval p = .agg cs.toArray) (hq : a.eval q = .int .i64 (n : Int)) (hn : n < 64) (hx : cs[n]? = some x) : (execOp a.eval o).run Tryz.prog W = .ok (.value x) W := by
  unfold execOp
  rw [ho]
  show (do pure (Next.value (← Instr.index 296 (a.eval p) (a.eval q))) : Sem Next).run _ _ = _
  rw [hp, hq, Sem.run_bind, run_index64 cs n x W hn hx]
  rfl
theorem word_lt {b : List Nat} (hx : ∀ x ∈ b, x < 256) (i : Nat) : Sha.word b i < Sha.M := by
  have h0 := getD_lt hx (4 * i)
  have h1 := getD_lt hx (4 * i + 1)
  have h2 := getD_lt hx (4 * i + 2)
  have h3 := getD_lt hx (4 * i + 3)
  unfold Sha.word
  exact Nat.or_lt_two_pow (n := 32) (Nat.or_lt_two_pow (Nat.or_lt_two_pow (lt24 _ h0) (lt16 _ h1)) (lt8 _ h2)) (lt0 _ h3)
theorem nextW_lt {b : List Nat} (hx : ∀ x ∈ b, x < 256) (ws : List Nat) (i : Nat) : Sha.nextW b ws i < Sha.M := by
  unfold Sha.nextW
  split
  · exact word_lt hx i
  · exact Nat.mod_lt _ (by decide)
theorem sched_lt {b : List Nat} (hx : ∀ x ∈ b, x < 256) : ∀ n, ∀ z ∈ Sha.sched b n, z < Sha.M
  | 0, z, h => by cases h
  | n + 1, z, h => by
    rw [Sha.sched] at h
    rcases List.mem_append.1 h with h | h
    · exact sched_lt hx n z h
    · rw [List.mem_singleton] at h; subst h; exact nextW_lt hx _ _
theorem sched_get {b : List Nat} (hx : ∀ x ∈ b, x < 256) (n j : Nat) : (Sha.sched b n).getD j 0 < Sha.M := by
  rw [List.getD_eq_getElem?_getD]
  cases h : (Sha.sched b n)[j]? with
  | none => decide
  | some z => exact sched_lt hx n z (List.mem_of_getElem? h)
theorem div_lt {x : Nat} (h : x < Sha.M) (k : Nat) : x / k < 2 ^ IntKind.u32.bits := Nat.lt_of_le_of_lt (Nat.div_le_self _ _) h
theorem xor3 {a b c : Nat} (ha : a < Sha.M) (hb : b < Sha.M) (hc : c < Sha.M) : Go.bits .xor .u32 (Go.bits .xor .u32 (a : Int) (b : Int)) (c : Int) = (((a ^^^ b) ^^^ c : Nat) : Int) := by
  rw [Sha.xor_nat (k := .u32) rfl ha hb, Sha.xor_nat (k := .u32) rfl (Nat.xor_lt_two_pow ha hb) hc]
theorem sum4 (p A q B : Nat) : ((p : Int) + (A : Int) + (q : Int) + (B : Int)) % 4294967296 = (((((p + A) % Sha.M + q) % Sha.M + B) % Sha.M : Nat) : Int) := by
  unfold Sha.M
  omega
theorem next_val (x y p q : Nat) (hx : x < Sha.M) (hy : y < Sha.M) : ((p : Int) + Go.bits .xor .u32 (Go.bits .xor .u32 (Sha.rot x 25 : Nat) (Sha.rot x 14 : Nat)) ((x : Int) / 8) + (q : Int) + Go.bits .xor .u32 (Go.bits .xor .u32 (Sha.rot y 15 : Nat) (Sha.rot y 13 : Nat)) ((y : Int) / 1024)) % 4294967296 = (((((p + Sha.s0 x) % Sha.M + q) % Sha.M + Sha.s1 y) % Sha.M : Nat) : Int) := by
  rw [show ((x : Int) / 8) = ((x / 8 : Nat) : Int) by omega, show ((y : Int) / 1024) = ((y / 1024 : Nat) : Int) by omega, xor3 (Sha.rot_lt hx) (Sha.rot_lt hx) (div_lt hx 8), xor3 (Sha.rot_lt hy) (Sha.rot_lt hy) (div_lt hy 1024)]
  exact sum4 _ _ _ _
theorem t_val (u : Sha.V) (k x : Nat) (h : VOk u) : ((((u.h : Int) + Go.bits .xor .u32 (Go.bits .xor .u32 (Sha.rot u.e 26 : Nat) (Sha.rot u.e 21 : Nat)) (Sha.rot u.e 7 : Nat) + Go.bits .xor .u32 (u.g : Int) (Go.bits .and .u32 (u.e : Int) (Go.bits .xor .u32 (u.f : Int) (u.g : Int))) + (k : Int)) % 4294967296 + (x : Int)) % 4294967296) = ((u.t k x : Nat) : Int) := by
  have h1 : u.f ^^^ u.g < Sha.M := Nat.xor_lt_two_pow (n := 32) h.f h.g
  have h2 : u.e &&& (u.f ^^^ u.g) < Sha.M := Nat.and_lt_two_pow (n := 32) _ h1
  rw [xor3 (Sha.rot_lt h.e) (Sha.rot_lt h.e) (Sha.rot_lt h.e), Sha.xor_nat (k := .u32) rfl h.f h.g, Sha.and_nat (k := .u32) rfl h.e h1, Sha.xor_nat (k := .u32) rfl h.g h2]
  unfold Sha.V.t Sha.S1 Sha.M
  omega
theorem u_val (u : Sha.V) (h : VOk u) : ((Go.bits .xor .u32 (Go.bits .xor .u32 (Sha.rot u.a 30 : Nat) (Sha.rot u.a 19 : Nat)) (Sha.rot u.a 10 : Nat) + Go.bits .or .u32 (Go.bits .and .u32 (u.a : Int) (u.b : Int)) (Go.bits .and .u32 (u.c : Int) (Go.bits .or .u32 (u.a : Int) (u.b : Int)))) % 4294967296) = ((u.u : Nat) : Int) := by
  have h1 : u.a ||| u.b < Sha.M := Nat.or_lt_two_pow (n := 32) h.a h.b
  have h2 : u.c &&& (u.a ||| u.b) < Sha.M := Nat.and_lt_two_pow (n := 32) _ h1
  have h3 : u.a &&& u.b < Sha.M := Nat.and_lt_two_pow (n := 32) _ h.b
  rw [xor3 (Sha.rot_lt h.a) (Sha.rot_lt h.a) (Sha.rot_lt h.a), Sha.or_nat (k := .u32) rfl h.a h.b, Sha.and_nat (k := .u32) rfl h.c h1, Sha.and_nat (k := .u32) rfl h.a h.b, Sha.or_nat (k := .u32) rfl h3 h2]
  unfold Sha.V.u Sha.S0 Sha.M
  omega
theorem start_world (g : Nat) (w : World) (b : List Nat) (o1 : Obj) (hg : w.heap[g]? = some o1) :
    (kWorld (w.alloc (.cells (n8 b).toArray 250))).heap[w.heap.size]? = some (.cells (n8 b).toArray 250 (0, 0)) ∧
    (kWorld (w.alloc (.cells (n8 b).toArray 250))).heap[w.heap.size + 1]? = some (.cells kCells 296 (0, 0)) ∧
    (kWorld (w.alloc (.cells (n8 b).toArray 250))).heap[g]? = some o1 ∧
    (kWorld (w.alloc (.cells (n8 b).toArray 250))).heap.size = w.heap.size + 2 ∧
    Fr (fun k => k = g) w (kWorld (w.alloc (.cells (n8 b).toArray 250))) := by
  have hlt := block_lt hg
  have hn := kWorld_new (w.alloc (.cells (n8 b).toArray 250))
  rw [World.size_alloc] at hn
  exact ⟨(kWorld_other _ _ (by simp)).trans (heap_alloc_new w _), hn, (kWorld_other _ _ (by simp; omega)).trans ((Below.heap_alloc _ _ _ hlt).trans hg), by rw [kWorld_size, World.size_alloc], kWorld_fr _ _ _ ((Fr.refl _ w).alloc _)⟩
set_option maxRecDepth 100000 in
set_option maxHeartbeats 4000000 in
theorem round256 (g : Nat) (v : Sha.V) (b : List Nat) (rest : List Value) (T : TypeId) (hb : b.length = 64) (hx : ∀ x ∈ b, x < 256) (hvok : VOk v) (w : World) (hg : w.heap[g]? = some (.cells (n32 (vl v) ++ rest).toArray T (0, 0))) :
    Calls Tryz.prog 223 #[.pointer (some ⟨g, 0, none⟩), .agg (n8 b).toArray] w fun e w' => e = .returned (.tuple #[]) ∧ w'.heap[g]? = some (.cells (n32 (vl (Sha.block v b)) ++ rest).toArray T (0, 0)) ∧ Fr (fun k => k = g) w w' := by
  have HG := hg
  refine calls_of_wp Tryz.func223 R256_body ?_
  simp only [Tryz.ntmps223, List.size_toArray, List.length_cons, List.length_nil, Nat.reduceAdd, Nat.reduceSub, Array.replicate_succ, Array.replicate_zero, List.push_toArray, List.append_toArray, List.nil_append, List.cons_append]
  unfold R256Body
  go_wp2_with (first
    | ((with_reducible refine at_dst (N := 17) rfl ?_); refine wpList_run rfl _ _ (exec_build rfl) ?_; simp only [Act.put, List.setIfInBounds_toArray, List.set_cons_zero, List.set_cons_succ])
    | ((with_reducible refine at_dst (N := 4) rfl ?_); refine wpList_run rfl _ _ (exec_alloc rfl) ?_; simp only [Act.put, List.setIfInBounds_toArray, List.set_cons_zero, List.set_cons_succ])
    | ((with_reducible refine at_store (p := 4) rfl ?_); refine wpList_store_mid rfl 296 (.tmp 4) (.tmp 17) rfl (w.alloc (.cells (n8 b).toArray 250)).heap.size 0 kCells rfl rfl (there_of (heap_alloc_new _ _) (by decide)) info_64 (all_oneCell_toArray (n32_cell _)) ?_; simp only [Act.put, List.setIfInBounds_toArray, List.set_cons_zero, List.set_cons_succ])
    | ((with_reducible refine at_dst (N := 5) rfl ?_); refine wpList_gen (fun W => W.heap[w.heap.size]? = some (.cells (n8 b).toArray 250 (0, 0)) ∧ W.heap[w.heap.size + 1]? = some (.cells kCells 296 (0, 0)) ∧ W.heap[g]? = some (.cells (n32 (vl v) ++ rest).toArray T (0, 0)) ∧ W.heap.size = w.heap.size + 2 ∧ Fr (fun k => k = g) w W) (start_world g w b _ hg) ?_; rintro W ⟨h0, h1, h3, hz, hF⟩; refine wpList_run rfl _ _ (exec_alloc rfl) ?_; simp only [Act.put, List.setIfInBounds_toArray, List.set_cons_zero, List.set_cons_succ]))
  rw [World.size_alloc]
  have hs1 : S1 w g W.heap.size b v rest T (Sha.sched b 0) (W.alloc (.cells z64 296)) := ⟨(Below.heap_alloc _ _ _ (block_lt h0)).trans h0, (Below.heap_alloc _ _ _ (block_lt h1)).trans h1, heap_alloc_new W _, (Below.heap_alloc _ _ _ (block_lt h3)).trans h3, by omega, block_lt hg, hF.alloc _⟩
  obtain ⟨B2, hB2⟩ : ∃ B2, W.heap.size = B2 := ⟨_, rfl⟩
  obtain ⟨W2, hW2⟩ : ∃ W2, W.alloc (.cells z64 296) = W2 := ⟨_, rfl⟩
  rw [hW2, hB2] at hs1 ⊢
  clear hW2 hB2 h0 h1 h3 hz hF HG hg
  go_loopw [18] (fun t wr => ∃ i : Nat, i ≤ 64 ∧ t = .int .i64 i ∧ S1 w g B2 b v rest T (Sha.sched b i) wr) (fun t _ => 64 - (intOf t).toNat)
  case atStart => exact ⟨0, by omega, rfl, hs1⟩
  case round =>
    clear hs1
    obtain ⟨i, hi, rfl, hS⟩ := hrel
    by_cases hlt : i < 64
    · by_cases h16 : i < 16
      · have d64 : decide ((i : Int) < 64) = true := decide_eq_true (by omega)
        have d16 : decide ((i : Int) < 16) = true := decide_eq_true (by omega)
        have HS := Lib.hid hS
        have hn : Hid (Sha.sched b (i + 1) = Sha.sched b i ++ [Sha.word b i]) := by show _ = _; rw [Sha.sched, Sha.nextW, if_pos h16]
        clear hS
        go_wp2_with (first
          | ((with_reducible refine at_dst (N := 24) rfl ?_); refine wpList_load_mid rfl 250 (.tmp 3) rfl w.heap.size 0 rfl (n8 b) _ (range_of HS.out.h0) Tryz.underlying250 rfl (load_b64 b hb) ?_; simp only [Act.put, List.setIfInBounds_toArray, List.set_cons_zero, List.set_cons_succ])
          | (go_at_call 237; refine (word_any b hb hx i h16 wr).mono ?_; rintro e w1 ⟨rfl, hb1⟩; have HS1 := Lib.hid (HS.out.below hb1); have hc := (HS1.out.cell (by rw [sched_len]; omega) i (by omega)).1; have hf := (HS1.out.cell (by rw [sched_len]; omega) i (by omega)).2; clear hb1))
        go_roundw
        case rel => exact ⟨i + 1, by omega, by go_num, by
          rw [hn.out]
          have h9 := HS1.out.put (by rw [sched_len]; omega) (Sha.word b i)
          rw [sched_len] at h9
          exact h9⟩
        case measure => simp [intOf]; omega
      · have d64 : decide ((i : Int) < 64) = true := decide_eq_true (by omega)
        have d16 : decide ((i : Int) < 16) = false := decide_eq_false (by omega)
        have HS := Lib.hid hS
        have hn : Hid (Sha.sched b (i + 1) = Sha.sched b i ++ [Sha.nextW b (Sha.sched b i) i]) := by show _ = _; rw [Sha.sched]
        have c15 := (hS.cell (by rw [sched_len]; omega) (i - 15) (by omega)).1
        have c2 := (hS.cell (by rw [sched_len]; omega) (i - 2) (by omega)).1
        have c16 := (hS.cell (by rw [sched_len]; omega) (i - 16) (by omega)).1
        have c7 := (hS.cell (by rw [sched_len]; omega) (i - 7) (by omega)).1
        have hc := (hS.cell (by rw [sched_len]; omega) i (by omega)).1
        have hf := (hS.cell (by rw [sched_len]; omega) i (by omega)).2
        obtain ⟨x, hx15⟩ : ∃ x, (Sha.sched b i).getD (i - 15) 0 = x := ⟨_, rfl⟩
        obtain ⟨y, hy2⟩ : ∃ x, (Sha.sched b i).getD (i - 2) 0 = x := ⟨_, rfl⟩
        obtain ⟨p, hp16⟩ : ∃ x, (Sha.sched b i).getD (i - 16) 0 = x := ⟨_, rfl⟩
        obtain ⟨q, hq7⟩ : ∃ x, (Sha.sched b i).getD (i - 7) 0 = x := ⟨_, rfl⟩
        obtain ⟨r, hr⟩ : ∃ x, (Sha.sched b i).getD i 0 = x := ⟨_, rfl⟩
        rw [hx15] at c15
        rw [hy2] at c2
        rw [hp16] at c16
        rw [hq7] at c7
        rw [hr] at hc
        have hlx : x < Sha.M := by rw [← hx15]; exact sched_get hx i (i - 15)
        have hly : y < Sha.M := by rw [← hy2]; exact sched_get hx i (i - 2)
        have HX15 := Lib.hid hx15
        have HY2 := Lib.hid hy2
        have HP16 := Lib.hid hp16
        have HQ7 := Lib.hid hq7
        have e15 : IntKind.i64.wrap ((i : Int) - 15) = ((i - 15 : Nat) : Int) := by rw [IntWalk.i64_in _ (by omega)]; omega
        have e2 : IntKind.i64.wrap ((i : Int) - 2) = ((i - 2 : Nat) : Int) := by rw [IntWalk.i64_in _ (by omega)]; omega
        have e16 : IntKind.i64.wrap ((i : Int) - 16) = ((i - 16 : Nat) : Int) := by rw [IntWalk.i64_in _ (by omega)]; omega
        have e7 : IntKind.i64.wrap ((i : Int) - 7) = ((i - 7 : Nat) : Int) := by rw [IntWalk.i64_in _ (by omega)]; omega
        clear hS hx15 hy2 hp16 hq7 hr
        go_wp2
        go_quiet (fail)
        have HSq : Hid (S1 w g B2 b v rest T (Sha.sched b i) (wr.drewN nq)) := Lib.hid (HS.out.below ⟨rfl, rfl, rfl, Nat.le_refl _, fun _ _ => rfl⟩)
        have c16q : (wr.drewN nq).cell? ⟨B2, i - 16, none⟩ = some (.int .u32 (p : Int)) := c16
        have c7q : (wr.drewN nq).cell? ⟨B2, i - 7, none⟩ = some (.int .u32 (q : Int)) := c7
        have hcq : (wr.drewN nq).cell? ⟨B2, i, none⟩ = some (.int .u32 (r : Int)) := hc
        have hfq : (wr.drewN nq).frozen? ⟨B2, i, none⟩ = false := hf
        clear HS c15 c2 c16 c7 hc hf
        generalize wr.drewN nq = wq at *
        go_wp2
        refine wp_region_quiet_tail 29 (by kernel_rfl) (by kernel_rfl) ?_
        simp only [List.take_succ_cons, List.take_zero, List.drop_succ_cons, List.drop_zero]
        repeat (any_goals (first
          | go_big_quiet_step ((go_at_call 238; exact Calls.quiet_of_same (rotl2 _ (by first | exact hlx | exact hly) _ _)))
          | quiet_step ((go_at_call 238; exact Calls.quiet_of_same (rotl2 _ (by first | exact hlx | exact hly) _ _)))))
        refine wpQuiet_nil ?_
        rintro w' ⟨nq2, rfl⟩
        go_wp2
        go_roundw
        case measure => simp [intOf]; omega
        case rel =>
          refine ⟨i + 1, by omega, by go_num, ?_⟩
          have h9 := (show S1 w g B2 b v rest T (Sha.sched b i) (wq.drewN nq2) from HSq.out.below ⟨rfl, rfl, rfl, Nat.le_refl _, fun _ _ => rfl⟩).put (by rw [sched_len]; omega) (Sha.nextW b (Sha.sched b i) i)
          rw [sched_len] at h9
          rw [hn.out, next_val x y p q hlx hly]
          unfold Sha.nextW at h9 ⊢
          rw [if_neg h16] at h9 ⊢
          rw [HX15.out, HY2.out, HP16.out, HQ7.out] at h9 ⊢
          exact h9
    · have hi64 : i = 64 := by omega
      subst hi64
      have d64 : decide (((64 : Nat) : Int) < 64) = false := decide_eq_false (by omega)
      have h2 := hS.h2
      rw [sched_len, Nat.sub_self, List.replicate_zero, List.append_nil] at h2
      obtain ⟨ws, hws⟩ : ∃ ws, Sha.sched b 64 = ws := ⟨_, rfl⟩
      have hwl : ws.length = 64 := by rw [← hws, sched_len]
      have hwx : ∀ z ∈ ws, z < Sha.M := by rw [← hws]; exact sched_lt hx 64
      have HW := Lib.hid hws
      rw [hws] at h2
      have HSg := Lib.hid (S1.split hS h2)
      clear hS h2 hws hlt hi
      go_wp2_with (first
        | ((with_reducible refine at_dst (N := 68) rfl ?_); refine wpList_load_mid rfl 249 (.tmp 67) rfl g 0 rfl (n32 (vl v)) _ (range_pre HSg.out.1.h3) Tryz.underlying249 rfl (info8l (n32 (vl v)) rfl) ?_; simp only [Act.put, List.setIfInBounds_toArray, List.set_cons_zero, List.set_cons_succ])
        | ((with_reducible refine at_dst (N := 9) rfl ?_); refine wpList_run rfl _ _ (exec_alloc8 rfl) ?_; simp only [Act.put, List.setIfInBounds_toArray, List.set_cons_zero, List.set_cons_succ])
        | ((with_reducible refine at_store (p := 9) rfl ?_); refine wpList_store_mid rfl 249 (.tmp 9) (.tmp 68) rfl wr.heap.size 0 (n32 (vl v)).toArray rfl rfl (there8 wr (n32 (vl v)) rfl) (info8 (n32 (vl v)) rfl) (all_oneCell_toArray (n32_cell _)) ?_; simp only [Act.put, List.setIfInBounds_toArray, List.set_cons_zero, List.set_cons_succ])
        | ((with_reducible refine at_dst (N := 69) rfl ?_); refine wpList_gen (fun W' => S2 w g wr.heap.size v rest T (Sha.rounds ws v 0) W' ∧ W'.heap[B2]? = some (.cells (n32 ws).toArray 296 (0, 0))) (start2 HSg.out.1 HSg.out.2) ?_; rintro W4 ⟨hS2, h2⟩; refine wpList_load_mid rfl 296 (.tmp 5) rfl B2 0 rfl (n32 ws) _ (range_of h2) Tryz.underlying296 rfl (load_w64 ws hwl) ?_; simp only [Act.put, List.setIfInBounds_toArray, List.set_cons_zero, List.set_cons_succ]; clear h2))
      obtain ⟨B3, hB3⟩ : ∃ B3, wr.heap.size = B3 := ⟨_, rfl⟩
      rw [hB3] at hS2 ⊢
      clear hB3 HSg
      go_loopw [70] (fun t wr2 => ∃ n : Nat, n ≤ 64 ∧ t = .int .i64 n ∧ S2 w g B3 v rest T (Sha.rounds ws v n) wr2) (fun t _ => 64 - (intOf t).toNat)
      case atStart => exact ⟨0, by omega, rfl, hS2⟩
      case round =>
        clear hS2
        obtain ⟨n, hn, rfl, hS⟩ := hrel
        by_cases hlt : n < 64
        · have d64 : decide ((n : Int) < 64) = true := decide_eq_true (by omega)
          obtain ⟨x, hxn⟩ : ∃ x, ws.getD n 0 = x := ⟨_, rfl⟩
          obtain ⟨k, hkn⟩ : ∃ x, Sha.K.getD n 0 = x := ⟨_, rfl⟩
          obtain ⟨u, hu⟩ : ∃ u, Sha.rounds ws v n = u := ⟨_, rfl⟩
          have hnext : Hid (Sha.rounds ws v (n + 1) = u.next k x) := by show _ = _; rw [Sha.rounds, hu, hxn, hkn]
          rw [hu] at hS
          have hok : VOk u := by rw [← hu]; exact rounds_ok hwx hvok n
          have hix : Hid ((n32 ws)[n]? = some (.int .u32 (x : Int))) := by
            show _ = _
            rw [← hxn]
            simp [List.getD_eq_getElem?_getD, show n < ws.length by omega]
          obtain ⟨c0, c1, c2, c3, c4, c5, c6, c7⟩ := hS.cells
          have HS := Lib.hid hS
          have he := hok.e
          have ha := hok.a
          clear hS hu hxn
          go_wp2_with ((with_reducible refine at_dst (N := 73) rfl ?_); refine wpList_run rfl _ _ (exec_index (n32 ws) n _ rfl rfl rfl hlt hix) ?_; simp only [Act.put, List.setIfInBounds_toArray, List.set_cons_zero, List.set_cons_succ])
          go_quiet (fail)
          clear c0 c1 c2 c3 c4 c5 c6 c7
          have HSa := Lib.hid (HS.out.drewN nq)
          obtain ⟨c0, c1, c2, c3, c4, c5, c6, c7⟩ := (HS.out.drewN nq).cells
          have ck := (HS.out.drewN nq).kcell n hlt
          rw [hkn] at ck
          clear hkn
          generalize wr.drewN nq = wa at *
          clear HS
          go_wp2
          go_quiet (((go_at_call 238; exact Calls.quiet_of_same (rotl2 _ (by first | exact he | exact ha) _ _))))
          clear c0 c1 c2 c3 c4 c5 c6 c7 ck
          have HSb := Lib.hid (HSa.out.drewN nq)
          obtain ⟨c0, c1, c2, c3, c4, c5, c6, c7⟩ := (HSa.out.drewN nq).cells
          generalize wa.drewN nq = wb at *
          clear HSa
          go_wp2
          go_quiet (((go_at_call 238; exact Calls.quiet_of_same (rotl2 _ (by first | exact he | exact ha) _ _))))
          clear c0 c1 c2 c3 c4 c5 c6 c7
          have HSc := Lib.hid (HSb.out.drewN nq)
          obtain ⟨c0, c1, c2, c3, c4, c5, c6, c7⟩ := (HSb.out.drewN nq).cells
          generalize wb.drewN nq = wc at *
          clear HSb
          rw [t_val u k x hok, u_val u hok]
          obtain ⟨tt, htt⟩ : ∃ q, u.t k x = q := ⟨_, rfl⟩
          obtain ⟨uu, huu⟩ : ∃ q, u.u = q := ⟨_, rfl⟩
          have hnx : Hid (u.next k x = ⟨(tt + uu) % Sha.M, u.a, u.b, u.c, (u.d + tt) % Sha.M, u.e, u.f, u.g⟩) := by show _ = _; rw [← htt, ← huu]; rfl
          rw [htt, huu]
          clear htt huu
          obtain ⟨s1, hs1⟩ : ∃ q, (tt + uu) % Sha.M = q := ⟨_, rfl⟩
          obtain ⟨s2, hs2⟩ : ∃ q, (u.d + tt) % Sha.M = q := ⟨_, rfl⟩
          have e1 : ((tt : Int) + (uu : Int)) % 4294967296 = (s1 : Int) := by rw [← hs1, Int.natCast_emod, Int.natCast_add]; rfl
          have e2 : ((u.d : Int) + (tt : Int)) % 4294967296 = (s2 : Int) := by rw [← hs2, Int.natCast_emod, Int.natCast_add]; rfl
          have hnx2 : Hid (u.next k x = ⟨s1, u.a, u.b, u.c, s2, u.e, u.f, u.g⟩) := by show _ = _; rw [hnx.out, hs1, hs2]
          have hth := HSc.out.there
          clear hs1 hs2 hnx
          go_wp2_with ((with_reducible refine at_store (p := 9) rfl ?_); refine wpList_store_mid rfl 249 (.tmp 9) (.tmp 146) rfl B3 0 (n32 (vl ⟨s1, u.a, u.b, u.c, s2, u.e, u.f, u.g⟩)).toArray rfl rfl hth (info8 _ rfl) (all_oneCell_toArray (n32_cell _)) ?_; simp only [Act.put, List.setIfInBounds_toArray, List.set_cons_zero, List.set_cons_succ])
          refine ⟨⟨n + 1, by omega, by go_num, ?_⟩, by simp [intOf]; omega⟩
          rw [hnext.out, hnx2.out]
          exact HSc.out.put _
        · have hn64 : n = 64 := by omega
          subst hn64
          have d64 : decide (((64 : Nat) : Int) < 64) = false := decide_eq_false (by omega)
          have hfin : Hid (Sha.block v b = v.add (Sha.rounds ws v 64)) := by show _ = _; rw [Sha.block, HW.out]
          generalize Sha.rounds ws v 64 = u at *
          have hS3 : S3 w g B3 v rest T u 0 wr := S3.start hS
          clear hS hlt hn hwx hwl HW hvok
          go_wp2
          go_loopw [148] (fun t wr3 => ∃ i : Nat, i ≤ 8 ∧ t = .int .i64 i ∧ S3 w g B3 v rest T u i wr3) (fun t _ => 8 - (intOf t).toNat)
          case atStart => exact ⟨0, by omega, rfl, hS3⟩
          case round =>
            clear hS3
            obtain ⟨i, hi, rfl, hS⟩ := hrel
            by_cases hlt : i < 8
            · have d8 : decide ((i : Int) < 8) = true := decide_eq_true (by omega)
              obtain ⟨p, q, r, cg, fg, cb, hput⟩ := hS.cell hlt
              have HS := Lib.hid hput
              have b0 : (0 : Int) ≤ (i : Int) := by omega
              have b1 : (i : Int) < 8 := by omega
              clear hS hput
              go_wp2
              refine wp_region_quiet_tail 11 (by kernel_rfl) (by kernel_rfl) ?_
              simp only [List.take_succ_cons, List.take_zero, List.drop_succ_cons, List.drop_zero]
              repeat (any_goals (first | go_big_quiet_step (fail) | quiet_step (fail)))
              refine wpQuiet_nil ?_
              rintro w' ⟨nq, rfl⟩
              go_wp2
              exact ⟨⟨i + 1, by omega, by go_num, by have h9 := HS.out nq; rw [Int.natCast_emod, Int.natCast_add] at h9; exact h9⟩, by simp [intOf]; omega⟩
            · have hi8 : i = 8 := by omega
              subst hi8
              have d8 : decide (((8 : Nat) : Int) < 8) = false := decide_eq_false (by omega)
              have HS := Lib.hid hS
              clear hS hlt hi
              go_wp2
              go_end0
              exact ⟨rfl, by rw [hfin.out]; exact HS.out.h3, HS.out.fr⟩
end Go.Proofs.YtnbonhinpepgoaaGreat
end
section
set_option linter.unusedVariables false
namespace Go.Proofs.YtnbonhinpepgoaaGreat
open Go.RowKit
def hb (h0 : Sha.V) (m : List Nat) : Nat → Sha.V
  | 0 => h0
  | k + 1 => Sha.block (hb h0 m k) ((m.drop (64 * k)).take 64)
theorem hb_append (h0 : Sha.V) (m l : List Nat) : ∀ k, 64 * k ≤ m.length → hb h0 (m ++ l) k = hb h0 m k
  | 0, _ => rfl
  | k + 1, h => by
    rw [hb, hb, hb_append h0 m l k (by omega), List.drop_append_of_le_length (by omega), List.take_append_of_le_length (by simp; omega)]
structure Blk (m blk : List Nat) : Prop where
  len : blk.length = 64
  lt : ∀ x ∈ blk, x < 256
  pre : blk.take (m.length % 64) = m.drop (64 * (m.length / 64))
theorem splice_lt {α : Type} {P : α → Prop} {blk cs : List α} {o : Nat} (h1 : ∀ x ∈ blk, P x) (h2 : ∀ x ∈ cs, P x) : ∀ x ∈ splice blk o cs, P x := by
  intro x hx
  unfold splice at hx
  rcases List.mem_append.1 hx with h | h
  · exact h1 x (List.mem_of_mem_take h)
  · rcases List.mem_append.1 h with h | h
    · exact h2 x h
    · exact h1 x (List.mem_of_mem_drop h)
theorem splice_take {α : Type} (blk cs : List α) (o : Nat) (h : o + cs.length ≤ blk.length) : (splice blk o cs).take (o + cs.length) = blk.take o ++ cs := by
  unfold splice
  rw [← List.append_assoc, List.take_append_of_le_length (by simp; omega)]
  exact List.take_of_length_le (by simp; omega)
theorem Blk.more {m blk cs : List Nat} (h : Blk m blk) (hc : ∀ x ∈ cs, x < 256) (hl : m.length % 64 + cs.length < 64) : Blk (m ++ cs) (splice blk (m.length % 64) cs) := by
  refine ⟨(length_splice _ _ _ (by have := h.len; omega)).trans h.len, splice_lt h.lt hc, ?_⟩
  have e1 : (m ++ cs).length % 64 = m.length % 64 + cs.length := by simp; omega
  have e2 : (m ++ cs).length / 64 = m.length / 64 := by simp; omega
  rw [e1, e2, splice_take _ _ _ (by have := h.len; omega), h.pre, List.drop_append_of_le_length (by omega)]
theorem more_hb {m cs : List Nat} (h0 : Sha.V) (hl : m.length % 64 + cs.length < 64) : hb h0 (m ++ cs) ((m ++ cs).length / 64) = hb h0 m (m.length / 64) := by
  have e2 : (m ++ cs).length / 64 = m.length / 64 := by simp; omega
  rw [e2, hb_append _ _ _ _ (by omega)]
theorem Blk.full {m blk cs : List Nat} (h : Blk m blk) (hc : ∀ x ∈ cs, x < 256) (hl : m.length % 64 + cs.length = 64) : Blk (m ++ cs) (splice blk (m.length % 64) cs) := by
  refine ⟨(length_splice _ _ _ (by have := h.len; omega)).trans h.len, splice_lt h.lt hc, ?_⟩
  have e1 : (m ++ cs).length % 64 = 0 := by simp; omega
  have e2 : 64 * ((m ++ cs).length / 64) = (m ++ cs).length := by simp; omega
  rw [e1, e2]
  simp
theorem full_block {m blk cs : List Nat} (h : Blk m blk) (hl : m.length % 64 + cs.length = 64) : ((m ++ cs).drop (64 * (m.length / 64))).take 64 = splice blk (m.length % 64) cs := by
  have e := splice_take blk cs (m.length % 64) (by have := h.len; omega)
  have hs := length_splice blk (m.length % 64) cs (by have := h.len; omega)
  rw [hl, List.take_of_length_le (by rw [hs, h.len]; omega), h.pre] at e
  rw [e, List.drop_append_of_le_length (by omega)]
  refine List.take_of_length_le ?_
  simp
  omega
theorem full_hb {m blk cs : List Nat} (h0 : Sha.V) (h : Blk m blk) (hl : m.length % 64 + cs.length = 64) : hb h0 (m ++ cs) ((m ++ cs).length / 64) = Sha.block (hb h0 m (m.length / 64)) (splice blk (m.length % 64) cs) := by
  have e2 : (m ++ cs).length / 64 = m.length / 64 + 1 := by simp; omega
  rw [e2, hb, hb_append _ _ _ _ (by omega), full_block h hl]
theorem block_ok (v : Sha.V) (b : List Nat) : VOk (Sha.block v b) := ⟨Nat.mod_lt _ (by decide), Nat.mod_lt _ (by decide), Nat.mod_lt _ (by decide), Nat.mod_lt _ (by decide), Nat.mod_lt _ (by decide), Nat.mod_lt _ (by decide), Nat.mod_lt _ (by decide), Nat.mod_lt _ (by decide)⟩
theorem hb_ok {h0 : Sha.V} (h : VOk h0) (m : List Nat) : ∀ k, VOk (hb h0 m k)
  | 0 => h
  | k + 1 => block_ok _ _
theorem n32_vl (v : Sha.V) : n32 (vl v) = [.int .u32 v.a, .int .u32 v.b, .int .u32 v.c, .int .u32 v.d, .int .u32 v.e, .int .u32 v.f, .int .u32 v.g, .int .u32 v.h] := rfl
theorem n8_splice (blk cs : List Nat) (o : Nat) : n8 (splice blk o cs) = splice (n8 blk) o (n8 cs) := by
  simp [splice, List.map_take, List.map_drop]
theorem splice_mid {α : Type} (pre mid suf cs : List α) (o : Nat) (h : o + cs.length ≤ mid.length) : splice (pre ++ (mid ++ suf)) (pre.length + o) cs = pre ++ (splice mid o cs ++ suf) := by
  unfold splice
  rw [List.take_append, List.take_of_length_le (by omega), show pre.length + o - pre.length = o by omega, List.take_append_of_le_length (by omega),
    List.drop_append, show List.drop (pre.length + o + cs.length) pre = [] from List.drop_eq_nil_of_le (by omega), show pre.length + o + cs.length - pre.length = o + cs.length by omega, List.drop_append_of_le_length (by omega)]
  simp
end Go.Proofs.YtnbonhinpepgoaaGreat
end
section
set_option linter.unusedVariables false
namespace Go.Proofs.YtnbonhinpepgoaaGreat
open Go.RowKit
abbrev fR256 : Value := .func (.func 223) #[] #[]
def stc (h0 : Sha.V) (m blk : List Nat) : List Value := n32 (vl (hb h0 m (m.length / 64))) ++ (n8 blk ++ [.int .u64 m.length, fR256])
def SSt (h0 : Sha.V) (T : TypeId) (g : Nat) (m : List Nat) (w : World) : Prop := ∃ blk, Blk m blk ∧ w.heap[g]? = some (.cells (stc h0 m blk).toArray T (0, 0))
def Src (g : Nat) (w : World) (sp : Option Addr) (l : List Nat) : Prop := 0 < l.length → ∃ ad, sp = some ad ∧ ad.block ≠ g ∧ ∀ j v, (n8 l)[j]? = some v → w.cell? (ad.add j) = some v
theorem add_block (a : Addr) (n : Nat) : (a.add n).block = a.block := by unfold Addr.add; split <;> rfl
def sliceLen : Value → Nat
  | .slice _ n _ => n
  | _ => 0
theorem stc_n (h0 : Sha.V) (m blk : List Nat) (h : blk.length = 64) : (stc h0 m blk)[72]? = some (.int .u64 m.length) := by
  unfold stc
  rw [n32_vl, List.getElem?_append_right (by simp), List.getElem?_append_right (by simp [h])]
  simp [h]
theorem stc_f (h0 : Sha.V) (m blk : List Nat) (h : blk.length = 64) : (stc h0 m blk)[73]? = some fR256 := by
  unfold stc
  rw [n32_vl, List.getElem?_append_right (by simp), List.getElem?_append_right (by simp [h])]
  simp [h]
theorem stc_len (h0 : Sha.V) (m blk : List Nat) (h : blk.length = 64) : (stc h0 m blk).length = 74 := by
  unfold stc
  rw [n32_vl]
  simp [h]
theorem stc_at72 (v : Sha.V) (blk : List Nat) (x f : Value) (h : blk.length = 64) : (n32 (vl v) ++ (n8 blk ++ [x, f]))[72]? = some x := by
  rw [n32_vl, List.getElem?_append_right (by simp), List.getElem?_append_right (by simp [h])]
  simp [h]
theorem stc_put {T : TypeId} {g : Nat} {w : World} (v : Sha.V) (blk : List Nat) (x f : Value) (h : blk.length = 64) (y : Value) (hg : w.heap[g]? = some (.cells (n32 (vl v) ++ (n8 blk ++ [x, f])).toArray T (0, 0))) :
    (w.setCell ⟨g, 72, none⟩ y).heap[g]? = some (.cells (n32 (vl v) ++ (n8 blk ++ [y, f])).toArray T (0, 0)) := by
  have h1 := heap_setCell (j := 72) hg y
  rw [h1]
  rw [n32_vl, List.setIfInBounds_toArray, List.set_append_right _ _ (by simp), List.set_append_right _ _ (by simp [h])]
  simp [h]
theorem stc_at73 (v : Sha.V) (blk : List Nat) (x f : Value) (h : blk.length = 64) : (n32 (vl v) ++ (n8 blk ++ [x, f]))[73]? = some f := by
  rw [n32_vl, List.getElem?_append_right (by simp), List.getElem?_append_right (by simp [h])]
  simp [h]
theorem range_mid {T : TypeId} {g : Nat} {w : World} (v : Sha.V) (blk : List Nat) (suf : List Value) (hg : w.heap[g]? = some (.cells (n32 (vl v) ++ (n8 blk ++ suf)).toArray T (0, 0))) (n : Nat) : (w.drewN n).rangeAt g 8 (n8 blk) := fun j y hy => by
  show (w.drewN n).cell? ⟨g, 8 + j, none⟩ = _
  rw [cell_of_row (w.drewN n) g (8 + j) _ _ _ hg, List.getElem?_toArray, n32_vl, List.getElem?_append_right (by simp), List.getElem?_append_left (by have := (List.getElem?_eq_some_iff.1 hy).1; simp at this ⊢; omega)]
  simpa using hy
theorem wpQuiet_load_mid {P : Program} {ops : Array Oper} {C : World → Prop} {Q : Act → Prop} {rest : List Oper} {op : Oper} {a : Act} (hgd : op.guard = none) (ty : TypeId) (x : Operand) (ho : op.op = .load ty x)
    (b o : Nat) (hx : a.eval x = .pointer (some ⟨b, o, none⟩)) (cs : List Value) (d : TypeDesc) (hS : ∀ w, C w → w.rangeAt b o cs)
    (hu : P.underlying ty = some d) (hd : d.isRow = true) (hi : (P.info? ty).map (·.size) = some cs.length)
    (h : wpQuiet P ops C Q rest (a.put op.dst (.agg cs.toArray))) : wpQuiet P ops C Q (op :: rest) a :=
  BigFrame.wpQuiet_want (by simp [Region.wanted, hgd]) fun K hK => ⟨.agg cs.toArray, fun w hw => by
    unfold Oper.quietAt execOp
    simp only [ho, hx, Instr.loadAt, Instr.sureAddr, Sem.run_bind, Sem.run_pure, Result.andThen_ok, run_loadVar_mid w b o ty cs d (hS w hw) hu hd hi]
    exact ⟨rfl, rfl⟩, hK _ h⟩
theorem wpList_copy_fr {P : Program} {w : World} {ops : Array Oper} {rest : List Oper} {o : Oper} {a : Act} {Q : Exit → Act → World → Prop} (hgd : o.guard = none) (d s : Operand) (dT sT : TypeId)
    (ho : o.op = .call { callee := .builtin .copy, args := #[d, s], argTypes := #[dT, sT] }) (elem : TypeId) (hu : P.underlying dT = some (.slice elem)) (hsz : (P.info? elem).map (·.size) = some 1)
    (g off dLen dCap : Nat) (ad : Addr) (sLen sCap : Nat) (hd : a.eval d = .slice (some ⟨g, off, none⟩) dLen dCap) (hs : a.eval s = .slice (some ad) sLen sCap)
    (cur : List Value) (t : TypeId) (hg : w.heap[g]? = some (.cells cur.toArray t (0, 0))) (cs : List Value) (hn : cs.length = Nat.min sLen dLen)
    (hsrc : ∀ j v, cs[j]? = some v → w.cell? (ad.add j) = some v)
    (hfit : off + cs.length ≤ cur.length) (h1 : ∀ v ∈ cs, v.oneCell' = true)
    (h : ∀ w', Hid (w'.heap[g]? = some (.cells (splice cur off cs).toArray t (0, 0))) → Fr (fun k => k = g) w w' → wpList P ops Q rest (a.put o.dst (goInt cs.length)) w') :
    wpList P ops Q (o :: rest) a w := by
  refine wpList_copy_own hgd d s dT sT ho elem hu hsz g off dLen dCap ad sLen sCap hd hs cur.toArray t hg cs hn hsrc (by simpa using hfit) h1 ?_
  exact h _ (show _ = _ by simpa [splice] using setRow_heap w g _ _ t _ hg) ⟨rfl, rfl, rfl, by simp [World.setRow], fun k _ hk => setRow_other w g k _ hk⟩
set_option maxHeartbeats 4000000 in
theorem add256 (h0 : Sha.V) (hv : VOk h0) (T : TypeId) (g : Nat) (m l : List Nat) (sp : Option Addr) (cap : Nat) (hcap : l.length ≤ cap) (hx : ∀ x ∈ l, x < 256) (hl : m.length + l.length < 2 ^ 63) (w : World) (hst : SSt h0 T g m w) (hs : Src g w sp l) :
    Calls Tryz.prog 183 #[.pointer (some ⟨g, 0, none⟩), .slice sp l.length cap] w fun e w' => e = .returned (.tuple #[]) ∧ SSt h0 T g (m ++ l) w' ∧ Fr (fun k => k = g) w w' := by
  go_enter Tryz.func183, Tryz.ntmps183
  go_wp2
  go_loopw [1] (fun t wr => ∃ (d r : List Nat) (sp : Option Addr) (cap : Nat), l = d ++ r ∧ t = .slice sp r.length cap ∧ r.length ≤ cap ∧ SSt h0 T g (m ++ d) wr ∧ Src g w sp r ∧ Fr (fun k => k = g) w wr) (fun t _ => sliceLen t)
  case atStart => exact ⟨[], l, sp, cap, rfl, rfl, hcap, by simpa using hst, hs, Fr.refl _ _⟩
  case round =>
    clear hst hs hcap
    obtain ⟨d, r, sp, cap, rfl, rfl, hcap, ⟨blk, hB, hH⟩, hS, hF⟩ := hrel
    obtain ⟨M, hM⟩ : ∃ M, m ++ d = M := ⟨_, rfl⟩
    rw [hM] at hB hH
    have hlen : M.length + r.length < 2 ^ 63 := by rw [← hM]; simp at hl ⊢; omega
    by_cases hr : r.length = 0
    · have d0 : decide ((0 : Int) < (r.length : Int)) = false := decide_eq_false (by omega)
      have HH := Lib.hid hH
      have HF := Lib.hid hF
      clear hH hF
      go_wp2
      go_end0
      exact ⟨rfl, by
        obtain rfl : r = [] := List.eq_nil_of_length_eq_zero hr
        rw [List.append_nil, hM]
        exact ⟨blk, hB, HH.out⟩, HF.out⟩
    · have d0 : decide ((r.length : Int) > 0) = true := decide_eq_true (by omega)
      obtain ⟨q, hq⟩ : ∃ q, M.length % 64 = q := ⟨_, rfl⟩
      obtain ⟨r1, r2, c, h12, hc, hc0, hcq, hce⟩ : ∃ (r1 r2 : List Nat) (c : Nat), Hid (r = r1 ++ r2) ∧ r1.length = c ∧ 0 < c ∧ q + c ≤ 64 ∧ (q + c < 64 → r2 = []) :=
        ⟨r.take (64 - q), r.drop (64 - q), _, (show _ = _ from (List.take_append_drop _ _).symm), rfl, by simp; omega, by simp; omega, fun h => List.drop_eq_nil_of_le (by simp at h; omega)⟩
      have hcr : r1.length + r2.length = r.length := by rw [h12.out, List.length_append]
      have hx1 : Hid (∀ x ∈ r1, x < 256) := show ∀ x ∈ r1, x < 256 from fun x hx' => hx x (List.mem_append.2 (.inr (by rw [h12.out]; exact List.mem_append.2 (.inl hx'))))
      have q0 : (0 : Int) ≤ (M.length : Int) % 64 := by omega
      have q1 : (M.length : Int) % 64 ≤ 64 := by omega
      have q2 : ¬ (64 : Nat) = ((M.length : Int) % 64).toNat := by omega
      have hn : wr.cell? ⟨g, 72, none⟩ = some (.int .u64 M.length) := (cell_of_row _ _ 72 _ _ _ hH).trans (by rw [List.getElem?_toArray]; exact stc_n h0 M blk hB.len)
      have hf : wr.cell? ⟨g, 73, none⟩ = some fR256 := (cell_of_row _ _ 73 _ _ _ hH).trans (by rw [List.getElem?_toArray]; exact stc_f h0 M blk hB.len)
      have HH := Lib.hid hH
      have HF := Lib.hid hF
      clear hH hF
      obtain ⟨ad, rfl, hag, hsrc'⟩ := hS (by omega)
      have hsrc := Lib.hid hsrc'
      have HSrc := Lib.hid hS
      clear hS hsrc'
      go_wp2
      refine wp_region_quiet_tail 10 (by kernel_rfl) (by kernel_rfl) ?_
      simp only [List.take_succ_cons, List.take_zero, List.drop_succ_cons, List.drop_zero]
      repeat (any_goals (first | go_big_quiet_step (fail) | quiet_step (fail)))
      refine wpQuiet_nil ?_
      rintro w' ⟨nq, rfl⟩
      have hs8 : Hid (splice (stc h0 M blk) (8 + M.length % 64) (n8 r1) = n32 (vl (hb h0 M (M.length / 64))) ++ (n8 (splice blk q r1) ++ [.int .u64 M.length, fR256])) := by
        show _ = _
        rw [hq, n8_splice]
        exact splice_mid (n32 (vl (hb h0 M (M.length / 64)))) (n8 blk) _ _ q (by rw [List.length_map, List.length_map, hB.len]; omega)
      refine wpList_copy_fr rfl (.tmp 16) (.tmp 17) 42 42 rfl 5 (by kernel_rfl) (by kernel_rfl) g (8 + M.length % 64) _ _ ad _ _ rfl rfl (stc h0 M blk) T HH.out (n8 r1) ?_ ?_ ?_ ?_ ?_
      · rw [List.length_map, hc, hq]
        by_cases h : q + c < 64
        · rw [hce h] at hcr
          rw [show r.length = c by simp at hcr; omega]
          exact (Nat.min_eq_left (by omega)).symm
        · exact (by omega : c = 64 - q).trans (Nat.min_eq_right (by omega)).symm
      · intro j v hv
        refine HF.out.cell (hsrc.out j v ?_) (by rw [add_block]; exact hag)
        rw [h12.out]
        unfold n8 at hv ⊢
        rw [List.map_append, List.getElem?_append_left (List.getElem?_eq_some_iff.1 hv).1]
        exact hv
      · rw [List.length_map, hc, hq, stc_len h0 M blk hB.len]
        omega
      · intro v hv
        obtain ⟨x, _, rfl⟩ := List.mem_map.1 hv
        rfl
      intro w2 HG' hF2
      have hb' : Hid (Blk (M ++ r1) (splice blk q r1)) := show Blk _ _ from by
        rw [← hq]
        by_cases h : q + c < 64
        · exact hB.more hx1.out (by omega)
        · exact hB.full hx1.out (by omega)
      have HG := Lib.hid (hs8.out ▸ HG'.out)
      have HF3 := Lib.hid ((HF.out.drewN nq).then_ hF2 (fun k _ h => h))
      rw [show ((n8 r1).length : Int) = (c : Int) by rw [List.length_map, hc]]
      clear HG' hs8
      have hn2 : w2.cell? ⟨g, 72, none⟩ = some (.int .u64 M.length) := (cell_of_row _ _ 72 _ _ _ HG.out).trans (by rw [List.getElem?_toArray]; exact stc_at72 _ _ _ _ hb'.out.len)
      have hz2 : w2.frozen? ⟨g, 72, none⟩ = false := by simp [World.frozen?, HG.out]
      have HG2 := Lib.hid (stc_put _ _ _ _ hb'.out.len (.int .u64 ((M.length : Int) + c)) HG.out)
      have HF2 := Lib.hid (HF3.out.setCell ⟨g, 72, none⟩ (.int .u64 ((M.length : Int) + c)) (fun _ => rfl))
      have hfin : ∀ W, SSt h0 T g (m ++ (d ++ r1)) W → Fr (fun k => k = g) w W → ∃ (d_1 r_1 : List Nat) (sp : Option Addr) (cap_1 : Nat), d ++ r = d_1 ++ r_1 ∧ Value.slice (if cap = c then some ad else some (ad.add c)) (r.length - c) (cap - c) = Value.slice sp r_1.length cap_1 ∧ r_1.length ≤ cap_1 ∧ SSt h0 T g (m ++ d_1) W ∧ Src g w sp r_1 ∧ Fr (fun k => k = g) w W := by
        intro W hW1 hW2
        refine ⟨d ++ r1, r2, _, cap - c, by rw [h12.out, List.append_assoc], by rw [show r.length - c = r2.length by omega], by omega, hW1, fun h0 => ⟨ad.add c, if_neg (by omega), (by rw [add_block]; exact hag), fun j v hv => ?_⟩, hW2⟩
        rw [Addr.add_add]
        refine hsrc.out (c + j) v ?_
        rw [h12.out]
        unfold n8 at hv ⊢
        rw [List.map_append, List.getElem?_append_right (by simp [hc]), List.length_map, hc, show c + j - c = j by omega]
        exact hv
      have HM := Lib.hid hM
      clear hM
      by_cases hfull : q + c = 64
      · have d1 : ((M.length : Int) + (c : Int)) % 64 = 0 := by omega
        obtain ⟨W, hW⟩ : ∃ W, w2.setCell ⟨g, 72, none⟩ (.int .u64 ((M.length : Int) + c)) = W := ⟨_, rfl⟩
        have HGW := Lib.hid (hW ▸ HG2.out)
        have HFW := Lib.hid (hW ▸ HF2.out)
        clear HG2 HF2
        have hn3 : W.cell? ⟨g, 72, none⟩ = some (.int .u64 ((M.length : Int) + c)) := (cell_of_row _ _ 72 _ _ _ HGW.out).trans (by rw [List.getElem?_toArray]; exact stc_at72 _ _ _ _ hb'.out.len)
        have hf3 : W.cell? ⟨g, 73, none⟩ = some fR256 := (cell_of_row _ _ 73 _ _ _ HGW.out).trans (by rw [List.getElem?_toArray]; exact stc_at73 _ _ _ _ hb'.out.len)
        have hr3 : Hid (∀ n, (W.drewN n).rangeAt g 8 (n8 (splice blk q r1))) := show ∀ n, _ from fun n => range_mid _ _ _ HGW.out n
        have hsst : Hid (∀ W', W'.heap[g]? = some (.cells (n32 (vl (Sha.block (hb h0 M (M.length / 64)) (splice blk q r1))) ++ (n8 (splice blk q r1) ++ [.int .u64 ((M.length : Int) + c), fR256])).toArray T (0, 0)) → SSt h0 T g (m ++ (d ++ r1)) W') := show ∀ W', _ from fun W' h => by
          refine ⟨splice blk q r1, ?_, ?_⟩
          · rw [← List.append_assoc, HM.out]; exact hb'.out
          · rw [← List.append_assoc, HM.out, h, stc]
            have := full_hb h0 hB (cs := r1) (by omega)
            rw [hq] at this
            rw [this, List.length_append, hc]
            rfl
        by_cases hcc : cap = c
        all_goals
          go_wp2
          refine wp_region_quiet_tail 11 (by kernel_rfl) (by kernel_rfl) ?_
          simp only [List.take_succ_cons, List.take_zero, List.drop_succ_cons, List.drop_zero]
          repeat (any_goals (first | (refine wpQuiet_load_mid rfl 250 (.tmp 46) rfl g 8 rfl (n8 (splice blk q r1)) _ (by rintro w' ⟨n, rfl⟩; exact hr3.out n) Tryz.underlying250 rfl (load_b64 _ hb'.out.len) ?_; simp only [Act.put, List.setIfInBounds_toArray, List.set_cons_zero, List.set_cons_succ]) | go_big_quiet_step (fail) | quiet_step (fail)))
          refine wpQuiet_nil ?_
          rintro w' ⟨nq, rfl⟩
          go_wp2_with fail
          refine (round256 g (hb h0 M (M.length / 64)) (splice blk q r1) (n8 (splice blk q r1) ++ [.int .u64 ((M.length : Int) + c), fR256]) T hb'.out.len hb'.out.lt (hb_ok hv M _) (W.drewN nq) HGW.out).mono ?_
          rintro e w1 ⟨rfl, hg1, hF1⟩
          have hfin' := hfin w1 (hsst.out w1 hg1) ((HFW.out.drewN nq).then_ hF1 (fun k _ h => h))
          go_wp2
          go_roundw
          case rel => simpa only [hcc, if_true, if_false, Nat.sub_self] using hfin'
          case measure => simp only [sliceLen]; omega
      · have d1 : ¬ ((M.length : Int) + (c : Int)) % 64 = 0 := by omega
        go_wp2
        go_roundw
        case rel =>
          refine hfin _ ⟨splice blk q r1, ?_, ?_⟩ HF2.out
          · rw [← List.append_assoc, HM.out]; exact hb'.out
          · rw [← List.append_assoc, HM.out, HG2.out, stc, more_hb h0 (by omega), List.length_append, hc]
            rfl
        case measure => simp only [sliceLen]; omega
end Go.Proofs.YtnbonhinpepgoaaGreat
end
section
set_option linter.unusedVariables false
namespace Go.Proofs.YtnbonhinpepgoaaGreat
open Go.RowKit
def blk0 : List Nat := List.replicate 64 0
theorem blk0_ok : Blk [] blk0 := ⟨rfl, by decide, rfl⟩
theorem info_st : (Tryz.prog.info? 253).map (·.size) = some 74 := by kernel_rfl
theorem zst_size : Tryz.zeroCells253.size = 74 := by kernel_rfl
theorem st0_eq : (((((((((Tryz.zeroCells253.setIfInBounds 0 (Value.int IntKind.u32 1779033703)).setIfInBounds 1 (Value.int IntKind.u32 3144134277)).setIfInBounds 2 (Value.int IntKind.u32 1013904242)).setIfInBounds 3 (Value.int IntKind.u32 2773480762)).setIfInBounds 4 (Value.int IntKind.u32 1359893119)).setIfInBounds 5 (Value.int IntKind.u32 2600822924)).setIfInBounds 6 (Value.int IntKind.u32 528734635)).setIfInBounds 7 (Value.int IntKind.u32 1541459225)).setIfInBounds 73 fR256) = (stc Sha.V0 [] blk0).toArray := by kernel_rfl
theorem stc_one (h0 : Sha.V) (m blk : List Nat) : ∀ v ∈ stc h0 m blk, v.oneCell' = true := by
  intro v hv
  unfold stc at hv
  rcases List.mem_append.1 hv with h | h
  · exact n32_cell _ v h
  · rcases List.mem_append.1 h with h | h
    · obtain ⟨x, _, rfl⟩ := List.mem_map.1 h
      rfl
    · rcases List.mem_cons.1 h with rfl | h
      · rfl
      · obtain rfl := List.mem_singleton.1 h
        rfl
theorem st_new {w : World} {g : Nat} {cs : List Value} {T : TypeId} (vs : List Value) (h : w.heap[g]? = some (.cells cs.toArray T (0, 0))) (hl : vs.length = cs.length) : (w.setCells g 0 vs).heap[g]? = some (.cells vs.toArray T (0, 0)) := by
  have := setCells_block g T vs [] cs w h hl
  simpa using this
theorem results_cell {P : Program} {fn : Func} {p : Tmp} {ty : TypeId} (h : fn.results = #[.cell p ty]) (tmps : Array Value) (w : World) (ad : Addr) (hp : tmps.getD p undef = .pointer (some ad)) {v : Value} (hl : (loadVar ty ad).run P w = .ok v w) : (results fn tmps).run P w = .ok v w := by
  simp only [results, h]
  simp only [Array.getD_eq_getD_getElem?] at hp
  simp [Sem.run_bind, hp, asAddr, hl, Result.andThen]
theorem load_st (h0 : Sha.V) (m blk : List Nat) (h : blk.length = 64) : (Tryz.prog.info? 253).map (·.size) = some (stc h0 m blk).length := by rw [stc_len _ _ _ h]; exact info_st
set_option maxHeartbeats 4000000 in
theorem start256 (w : World) :
    Calls Tryz.prog 182 #[] w fun e w' => e = .returned (.agg (stc Sha.V0 [] blk0).toArray) ∧ Fr (fun k => False) w w' := by
  go_enter Tryz.func182, Tryz.ntmps182
  have hz : (w.alloc (.cells Tryz.zeroCells253 253)).heap[w.heap.size]? = some (.cells Tryz.zeroCells253.toList.toArray 253 (0, 0)) := heap_alloc_new w _
  have hfin := st_new (stc Sha.V0 [] blk0) hz (by rw [stc_len _ _ _ rfl, Array.length_toList, zst_size])
  have HF := Lib.hid (Fr.setCells (M := fun _ => False) (Fr.refl _ w) w.heap.size (fun h => by omega) (stc Sha.V0 [] blk0) 0 _ ((Fr.refl _ w).alloc (.cells Tryz.zeroCells253 253)))
  generalize hW : (w.alloc (.cells Tryz.zeroCells253 253)).setCells w.heap.size 0 (stc Sha.V0 [] blk0) = W at *
  have hr := Lib.hid (range_of hfin)
  clear hfin
  go_wp2_with (first
    | ((with_reducible refine at_store (p := 0) rfl ?_); go_loud (refine wpList_store_mid rfl 253 (.tmp 0) (.tmp 2) rfl w.heap.size 0 (stc Sha.V0 [] blk0).toArray rfl (congrArg Value.agg st0_eq) (there_of hz (by rw [Array.toArray_toList, zst_size]; decide)) info_st (all_oneCell_toArray (stc_one _ _ _)) ?_); rw [List.toList_toArray, hW]; clear hW hz))
  refine ⟨rfl, .agg (stc Sha.V0 [] blk0).toArray, results_cell (p := 0) (ty := 253) (by kernel_rfl) _ _ ⟨w.heap.size, 0, none⟩ rfl (run_loadVar_mid _ _ _ _ _ _ hr.out Tryz.underlying253 rfl (load_st _ _ _ rfl)), rfl, HF.out⟩
end Go.Proofs.YtnbonhinpepgoaaGreat
end
section
set_option linter.unusedVariables false
namespace Go.Proofs.YtnbonhinpepgoaaGreat
open Go.RowKit
def zs (m : List Nat) : Nat := (119 - m.length % 64) % 64
def zpad (m : List Nat) (k : Nat) : List Nat := m ++ (128 :: List.replicate k 0)
theorem zpad_len (m : List Nat) (k : Nat) : (zpad m k).length = m.length + 1 + k := by simp [zpad]; omega
theorem zpad_succ (m : List Nat) (k : Nat) : zpad m k ++ [0] = zpad m (k + 1) := by
  unfold zpad
  rw [List.append_assoc, List.cons_append, ← List.replicate_succ']
def bitLen (n : Nat) : Nat := n * 8 % 18446744073709551616
def lenBytes (n : Nat) (k : Nat) : List Nat := (List.range k).map fun j => bitLen n / 2 ^ (56 - 8 * j) % 256
theorem lenBytes_succ (n k : Nat) : lenBytes n k ++ [bitLen n / 2 ^ (56 - 8 * k) % 256] = lenBytes n (k + 1) := by
  unfold lenBytes
  rw [List.range_succ, List.map_append]
  rfl
def padded (m : List Nat) (k : Nat) : List Nat := zpad m (zs m) ++ lenBytes m.length k
theorem padded_len (m : List Nat) (k : Nat) : (padded m k).length = m.length + 1 + zs m + k := by
  rw [padded, List.length_append, zpad_len, lenBytes, List.length_map, List.length_range]
theorem padded_succ (m : List Nat) (k : Nat) : padded m k ++ [bitLen m.length / 2 ^ (56 - 8 * k) % 256] = padded m (k + 1) := by
  rw [padded, padded, List.append_assoc, lenBytes_succ]
def wbytes (x : Nat) : List Nat := [x / 16777216 % 256, x / 65536 % 256, x / 256 % 256, x % 256]
def sumBytes (ws : List Nat) : List Nat := ws.flatMap wbytes
def shaFin (h0 : Sha.V) (m : List Nat) : Sha.V := hb h0 (padded m 8) ((padded m 8).length / 64)
theorem byteInfo : (Tryz.prog.info? 5).map (fun i => (i.zero, i.size, i.bytes)) = some (some (.int .u8 0), 1, 1) := by kernel_rfl
theorem owns_down {w : World} {b : Nat} {e : TypeId} {s : Nat} {v : Value} {n : Nat} {xs : List Value} (h : w.ownsRow (b + 1) e s v n xs) : w.ownsRow b e s v n xs :=
  ⟨h.1, h.2.imp id fun ⟨g, cap, cur, e, hb, rest⟩ => ⟨g, cap, cur, e, by omega, rest⟩⟩
theorem vl_lt {v : Sha.V} (h : VOk v) : ∀ x ∈ vl v, x < Sha.M := by
  intro x hx
  simp only [vl, List.mem_cons, List.not_mem_nil, or_false] at hx
  rcases hx with rfl | rfl | rfl | rfl | rfl | rfl | rfl | rfl
  all_goals first | exact h.a | exact h.b | exact h.c | exact h.d | exact h.e | exact h.f | exact h.g | exact h.h
structure SmS (h0 : Sha.V) (w : World) (M : List Nat) (W : World) : Prop where
  st : SSt h0 253 w.heap.size M W
  lt : w.heap.size < W.heap.size
  fr : Fr (fun _ => False) w W
theorem SmS.cell {h0 : Sha.V} {w : World} {M : List Nat} {W : World} (h : SmS h0 w M W) : W.cell? ⟨w.heap.size, 72, none⟩ = some (.int .u64 M.length) := by
  obtain ⟨blk, hB, hH⟩ := h.st
  exact (cell_of_row _ _ 72 _ _ _ hH).trans (by rw [List.getElem?_toArray]; exact stc_n h0 M blk hB.len)
theorem SmS.add1 {h0 : Sha.V} (hv : VOk h0) {w : World} {M : List Nat} {W : World} (h : SmS h0 w M W) (x : Nat) (hx : x < 256) (hl : M.length < 2 ^ 61) (T : TypeId) :
    Calls Tryz.prog 183 #[.pointer (some ⟨w.heap.size, 0, none⟩), .slice (some ⟨W.heap.size, 0, none⟩) 1 1] (W.alloc (.cells #[.int .u8 (x : Int)] T)) fun e w' => e = .returned (.tuple #[]) ∧ SmS h0 w (M ++ [x]) w' := by
  have hlt := h.lt
  have hw : (W.alloc (.cells #[.int .u8 (x : Int)] T)).heap.size = W.heap.size + 1 := by simp
  have hst : SSt h0 253 w.heap.size M (W.alloc (.cells #[.int .u8 (x : Int)] T)) := by
    obtain ⟨blk, hB, hH⟩ := h.st
    exact ⟨blk, hB, (Below.heap_alloc _ _ _ hlt).trans hH⟩
  refine (add256 h0 hv 253 w.heap.size M [x] (some ⟨W.heap.size, 0, none⟩) 1 (Nat.le_refl 1) (by simpa using hx) (by simp; omega) _ hst ?_).mono ?_
  · intro _
    refine ⟨_, rfl, by show W.heap.size ≠ w.heap.size; omega, fun j v hj => ?_⟩
    have := news_alloc W [.int .u8 (x : Int)] T j v (by simpa using hj)
    simpa using this
  · rintro e w' ⟨rfl, h1, h2⟩
    have hz := h2.size
    exact ⟨rfl, h1, by omega, (h.fr.alloc _).then_ h2 fun k hk e => by omega⟩
def nAt (g : Nat) (w : World) : Nat := (intOf ((w.cell? ⟨g, 72, none⟩).getD undef)).toNat
set_option maxHeartbeats 4000000 in
theorem sum256 (h0 : Sha.V) (hv : VOk h0) (m blk : List Nat) (hB : Blk m blk) (hl : m.length < 2 ^ 60) (w : World) :
    Calls Tryz.prog 184 #[.agg (stc h0 m blk).toArray, .int .i64 8] w fun e w' => ∃ v, e = .returned v ∧ w'.ownsRow w.heap.size 5 1 v 32 (n8 (sumBytes (vl (shaFin h0 m)))) ∧ Fr (fun _ => False) w w' := by
  go_enter Tryz.func184, Tryz.ntmps184
  have h1 : SmS h0 w m (w.alloc (.cells (stc h0 m blk).toArray 253)) := ⟨⟨blk, hB, heap_alloc_new w _⟩, by simp, (Fr.refl _ w).alloc _⟩
  go_wp2_with (first
    | ((with_reducible refine at_dst (N := 10) rfl ?_); refine wpList_gen (SmS h0 w m) h1 ?_; rintro W hS; have hn := hS.cell; have HS := Lib.hid hS; clear hS)
    | (go_at_call 183; refine (HS.out.add1 hv 128 (by omega) (by omega) _).mono ?_; rintro e w1 ⟨rfl, hS1⟩))
  obtain ⟨z, hz⟩ : ∃ z, zs m = z := ⟨_, rfl⟩
  have hz' : z < 64 ∧ (m.length + 1 + z) % 64 = 56 := by rw [← hz]; unfold zs; omega
  have hb8 : Hid (((m.length : Int) * 8) = ((bitLen m.length : Nat) : Int)) := by show _ = _; unfold bitLen; omega
  rw [show (m.length : Int) * 8 = ((bitLen m.length : Nat) : Int) from hb8.out]
  clear h1 HS hn
  go_loopw [] (fun wr => ∃ k, k ≤ z ∧ SmS h0 w (zpad m k) wr) (fun wr => m.length + 1 + z - nAt w.heap.size wr)
  case atStart => exact ⟨0, by omega, hS1⟩
  case round =>
    clear hS1
    obtain ⟨k, hk, hS⟩ := hrel
    have hn := hS.cell
    rw [zpad_len] at hn
    by_cases hkz : k = z
    · subst hkz
      have d0 : ((m.length + 1 + k : Nat) : Int) % 64 = 56 := by omega
      have HS := Lib.hid hS
      clear hS
      go_wp2
      clear d0
      generalize (((m.length : Int) + 1 + (k : Int)) % 64 != 56) = vb
      go_loopw [7] (fun t wr => ∃ j : Nat, j ≤ 8 ∧ t = .int .i64 (56 - 8 * (j : Int)) ∧ SmS h0 w (padded m j) wr) (fun t _ => (intOf t + 8).toNat)
      case atStart => exact ⟨0, by omega, rfl, by have := HS.out; rw [← hz] at this; simpa [padded, lenBytes] using this⟩
      case round =>
        clear HS hn
        obtain ⟨j, hj, rfl, hS⟩ := hrel
        by_cases hj8 : j = 8
        · subst hj8
          have dj : decide ((0 : Int) ≤ 56 - 8 * ((8 : Nat) : Int)) = false := by decide
          have HS := Lib.hid hS
          clear hS
          go_wp2
          obtain ⟨blkz, hBz, hHz⟩ := HS.out.st
          have hS0 := HS.out
          have hvF : hb h0 (padded m 8) ((padded m 8).length / 64) = shaFin h0 m := rfl
          rw [stc, hvF] at hHz
          have hx9 : ∀ x ∈ vl (shaFin h0 m), x < Sha.M := vl_lt (hb_ok hv _ _)
          obtain ⟨F, hFe'⟩ : ∃ F, shaFin h0 m = F := ⟨_, rfl⟩
          rw [hFe'] at hHz hx9
          have hFe := Lib.hid hFe'
          clear hFe' hvF
          generalize (56 - 8 * ((8 : Nat) : Int)) = v7
          go_loopw [36, 6] (fun t v wr3 => ∃ i : Nat, i ≤ 8 ∧ t = .int .i64 i ∧ wr3.ownsRow (w.heap.size + 1) 5 1 v (4 * i) (n8 (sumBytes ((vl F).take i))) ∧ wr3.heap[w.heap.size]? = wr.heap[w.heap.size]? ∧ w.heap.size < wr3.heap.size ∧ Fr (fun _ => False) w wr3) (fun t _ _ => 8 - (intOf t).toNat)
          case atStart => exact ⟨0, by omega, rfl, World.ownsRow_nil _ _ _ _, rfl, hS0.lt, hS0.fr⟩
          case round =>
            obtain ⟨i, hi, rfl, hown, hsame, hlt, hF⟩ := hrel
            rw [hHz] at hsame
            by_cases hi8 : i = 8
            · subst hi8
              have d8 : decide (((8 : Nat) : Int) < 8) = false := by decide
              have HO := Lib.hid hown
              have HF := Lib.hid hF
              clear hown hF
              go_wp2
              go_ret
              have HO' : wr.ownsRow w.heap.size 5 1 u6 32 (n8 (sumBytes (vl F))) := owns_down HO.out
              exact ⟨u6, rfl, by rw [hFe.out]; exact HO', HF.out⟩
            · have b0 : (0 : Int) ≤ (i : Int) := by omega
              have b1 : (i : Int) < 8 := by omega
              have d8 : decide ((i : Int) < 8) = true := decide_eq_true (by omega)
              obtain ⟨x, hxi⟩ : ∃ x, (vl F)[i]? = some x := ⟨_, List.getElem?_eq_getElem (by show i < 8; omega)⟩
              have hxl : x < Sha.M := hx9 x (List.mem_of_getElem? hxi)
              have hc : wr.cell? ⟨w.heap.size, i, none⟩ = some (.int .u32 x) := (cell_of_row _ _ i _ _ _ hsame).trans (by rw [List.getElem?_toArray, List.getElem?_append_left (by simp [vl]; omega), List.getElem?_map, hxi]; rfl)
              have HO := Lib.hid hown
              have HSm := Lib.hid hsame
              have HF := Lib.hid hF
              clear hown hsame hF
              have hnews : Hid ([Value.int .u8 ((x : Int) / 16777216 % 256), .int .u8 ((x : Int) / 65536 % 256), .int .u8 ((x : Int) / 256 % 256), .int .u8 ((x : Int) % 256)] = n8 (wbytes x)) := by show _ = _; rfl
              have hone : ∀ u ∈ [Value.int .u8 ((x : Int) / 16777216 % 256), .int .u8 ((x : Int) / 65536 % 256), .int .u8 ((x : Int) / 256 % 256), .int .u8 ((x : Int) % 256)], u.oneCell' = true := by intro u hu; simp at hu; rcases hu with rfl | rfl | rfl | rfl <;> rfl
              have htk : Hid (n8 (sumBytes ((vl F).take i)) ++ n8 (wbytes x) = n8 (sumBytes ((vl F).take (i + 1)))) := by
                show _ = _
                rw [List.take_add_one, hxi]
                unfold sumBytes n8
                rw [List.flatMap_append, ← List.map_append]
                rfl
              go_wp2_with (at_builtin; refine app_lit HO.out 4 [.int .u8 ((x : Int) / 16777216 % 256), .int .u8 ((x : Int) / 65536 % 256), .int .u8 ((x : Int) / 256 % 256), .int .u8 ((x : Int) % 256)] Tryz.underlying42 byteInfo rfl (by decide) rfl hone (by omega) (by omega) (by omega) rfl rfl rfl rfl ?_; intro v' w2 hrow2 hfr2)
              go_roundw
              case rel => exact ⟨i + 1, by omega, by go_num, by rw [← htk.out, ← hnews.out]; exact hrow2, by rw [hHz, ← HSm.out]; exact hfr2.keep _ hlt (by omega), by have := hfr2.size; omega, HF.out.then_ hfr2 (fun k hk e => by omega)⟩
              case measure => simp [intOf]; omega
        · have dj : decide ((0 : Int) ≤ 56 - 8 * (j : Int)) = true := decide_eq_true (by omega)
          have HS := Lib.hid hS
          clear hS
          have hx8 : Hid ((bitLen m.length : Int) / 2 ^ (56 - 8 * j) % 256 = ((bitLen m.length / 2 ^ (56 - 8 * j) % 256 : Nat) : Int)) := by show _ = _; rw [Int.natCast_emod, Int.natCast_ediv, Int.natCast_pow]; rfl
          go_wp2_with (first
            | (go_at_call 183; rw [hx8.out]; refine (HS.out.add1 hv _ (Nat.mod_lt _ (by decide)) (by rw [padded_len]; unfold zs; omega) _).mono ?_; rintro e w1 ⟨rfl, hS1⟩; rw [padded_succ] at hS1))
          go_roundw
          case rel => exact ⟨j + 1, by omega, by go_num, hS1⟩
          case measure => simp [intOf]; omega
    · have d0 : ¬ ((m.length + 1 + k : Nat) : Int) % 64 = 56 := by omega
      have HS := Lib.hid hS
      clear hS
      go_wp2_with (first
        | (go_at_call 183; refine (HS.out.add1 hv 0 (by omega) (by rw [zpad_len]; omega) _).mono ?_; rintro e w1 ⟨rfl, hS1⟩; rw [zpad_succ] at hS1))
      go_roundw
      case rel => exact ⟨k + 1, by omega, hS1⟩
      case measure =>
        have hn1 := hS1.cell
        rw [zpad_len] at hn1
        simp only [nAt, hn, hn1, Option.getD_some, intOf]
        omega
end Go.Proofs.YtnbonhinpepgoaaGreat
end
section
set_option linter.unusedVariables false
namespace Go.Proofs.YtnbonhinpepgoaaGreat
open Go.RowKit
def shaOf (m : List Nat) : List Nat := sumBytes (vl (shaFin Sha.V0 m))
theorem V0_ok : VOk Sha.V0 := ⟨by decide, by decide, by decide, by decide, by decide, by decide, by decide, by decide⟩
def Has (w : World) (sp : Option Addr) (l : List Nat) : Prop := 0 < l.length → ∃ ad, sp = some ad ∧ ∀ j v, (n8 l)[j]? = some v → w.cell? (ad.add j) = some v
theorem Has.src {w : World} {sp : Option Addr} {l : List Nat} (h : Has w sp l) {g : Nat} (hg : w.heap.size ≤ g) {W : World} (hF : Fr (fun _ => False) w W) : Src g W sp l := fun h0 => by
  obtain ⟨ad, rfl, hc⟩ := h h0
  refine ⟨ad, rfl, ?_, fun j v hv => hF.cell (hc j v hv) id⟩
  obtain ⟨v, hv⟩ : ∃ v, (n8 l)[0]? = some v := ⟨_, List.getElem?_eq_getElem (by simpa using h0)⟩
  have := World.block_lt_of_cell? _ _ (hc 0 v hv)
  rw [add_block] at this
  omega
end Go.Proofs.YtnbonhinpepgoaaGreat
end
section
set_option linter.unusedVariables false
namespace Go.Proofs.YtnbonhinpepgoaaGreat
open Go.RowKit
theorem made_byte (n : Nat) : madeCells (Value.int .u8 0).cells n = (n8 (List.replicate n 0)).toArray := by
  unfold madeCells
  apply Array.ext
  · simp [n8]
  · intro j h1 h2
    rw [Array.getElem_map, Array.getElem_range]
    have : (Value.int .u8 0).cells.size = 1 := rfl
    rw [this, Nat.mod_one]
    simp [n8]
    rfl
theorem run_mkb (n : Nat) (h : n ≤ 100000000) (W : World) : (Instr.makeSlice 42 (.int .i64 n) (.int .i64 n)).run Tryz.prog W = .ok (.slice (some ⟨W.heap.size, 0, none⟩) n n) (W.alloc (.cells (n8 (List.replicate n 0)).toArray 5)) := by
  obtain ⟨i0, hi, hz0, hz1, hz2⟩ := info_parts byteInfo
  have := run_make (P := Tryz.prog) W 42 5 i0 (.int .u8 0) Tryz.underlying42 hi hz0 .i64 .i64 n n (by omega) (by omega) (by rw [hz2]; omega) (by omega)
  rw [hz1, Nat.mul_one, Int.toNat_natCast, made_byte] at this
  exact this
def AllocOf (T : TypeId) (n : Nat) : Prop := ∃ Z : Array Value, Z.size = n ∧ ∀ w, (Instr.alloc T true (.tuple #[])).run Tryz.prog w = .ok (.pointer (some ⟨w.heap.size, 0, none⟩)) (w.alloc (.cells Z T))
theorem setCells_splice (b : Nat) (T : TypeId) (Z cs : List Value) (off : Nat) (hfit : off + cs.length ≤ Z.length) (w : World) (h : w.heap[b]? = some (.cells Z.toArray T (0, 0))) :
    (w.setCells b off cs).heap[b]? = some (.cells (splice Z off cs).toArray T (0, 0)) := by
  have key : ∀ (vs : List Value) (pre mid post : List Value) (w : World), w.heap[b]? = some (.cells (pre ++ (mid ++ post)).toArray T (0, 0)) → vs.length = mid.length → (w.setCells b pre.length vs).heap[b]? = some (.cells (pre ++ (vs ++ post)).toArray T (0, 0)) := by
    intro vs
    induction vs with
    | nil =>
      intro pre mid post w h hl
      obtain rfl : mid = [] := List.length_eq_zero_iff.1 hl.symm
      exact h
    | cons v vs ih =>
      intro pre mid post w h hl
      obtain ⟨c, mid, rfl⟩ : ∃ c t, mid = c :: t := by
        cases mid with
        | nil => cases hl
        | cons c t => exact ⟨c, t, rfl⟩
      rw [World.setCells]
      have h1 := heap_setCell (j := pre.length) h v
      have e : (pre ++ (c :: mid ++ post)).toArray.setIfInBounds pre.length v = ((pre ++ [v]) ++ (mid ++ post)).toArray := by simp
      rw [e] at h1
      have h2 := ih (pre ++ [v]) mid post _ h1 (by simpa using hl)
      rw [List.length_append, List.length_singleton] at h2
      rw [h2]
      simp
  have hZ : Z = Z.take off ++ ((Z.drop off).take cs.length ++ Z.drop (off + cs.length)) := by
    rw [← List.drop_drop, List.take_append_drop, List.take_append_drop]
  have hl : (Z.take off).length = off := by simp; omega
  have := key cs (Z.take off) ((Z.drop off).take cs.length) (Z.drop (off + cs.length)) w (by rw [← hZ]; exact h) (by simp; omega)
  rw [hl] at this
  exact this
theorem splice_all {α : Type} (Z cs : List α) (h : cs.length = Z.length) : splice Z 0 cs = cs := by
  unfold splice
  simp [h]
theorem n8_len (l : List Nat) : (n8 l).length = l.length := List.length_map ..
theorem n8_one (l : List Nat) : ∀ v ∈ n8 l, v.oneCell' = true := by
  intro v hv
  obtain ⟨x, _, rfl⟩ := List.mem_map.1 hv
  rfl
theorem own_form {W : World} {b n sz : Nat} {e : TypeId} {v : Value} {xs : List Value} (h : W.ownsRow b e sz v n xs) : ∃ X cap, v = .slice X n cap := by
  rcases h.2 with ⟨rfl, rfl⟩ | ⟨c, cap, cur, rfl, _⟩
  · exact ⟨_, _, rfl⟩
  · exact ⟨_, _, rfl⟩
section
variable {ops : Array Oper} {rest : List Oper} {o : Oper} {a : Act} {Q : Exit → Act → World → Prop} {W : World}
theorem wpList_alloc (hgd : o.guard = none) (T : TypeId) (n : Nat) (hal : AllocOf T n) (ho : o.op = .alloc T)
    (h : ∀ (Z : List Value) W', Z.length = n → W'.heap[W.heap.size]? = some (.cells Z.toArray T (0, 0)) → Fr (fun _ => False) W W' → W'.heap.size = W.heap.size + 1 → wpList Tryz.prog ops Q rest (a.put o.dst (.pointer (some ⟨W.heap.size, 0, none⟩))) W') :
    wpList Tryz.prog ops Q (o :: rest) a W := by
  obtain ⟨Z, hZ, hrun⟩ := hal
  have hex : (execOp a.eval o).run Tryz.prog W = .ok (.value (.pointer (some ⟨W.heap.size, 0, none⟩))) (W.alloc (.cells Z T)) := by
    unfold execOp
    rw [ho]
    show (do pure (Next.value (← Instr.alloc T true (.tuple #[]))) : Sem Next).run _ _ = _
    rw [Sem.run_bind, hrun]
    rfl
  exact wpList_run hgd _ _ hex (h Z.toList _ (by simpa using hZ) (by simpa using heap_alloc_new W _) ((Fr.refl _ _).alloc _) (by simp))
theorem wpList_put (hgd : o.guard = none) (hd : o.dst = none) (T : TypeId) (x y : Operand) (ho : o.op = .store T x y) (b off : Nat) (cs Z : List Value) (T' : TypeId) (hx : a.eval x = .pointer (some ⟨b, off, none⟩)) (hy : a.eval y = .agg cs.toArray)
    (hb : W.heap[b]? = some (.cells Z.toArray T' (0, 0))) (hfit : off + cs.length ≤ Z.length) (hi : (Tryz.prog.info? T).map (·.size) = some cs.length) (h1 : ∀ v ∈ cs, v.oneCell' = true)
    (h : ∀ W', W'.heap[b]? = some (.cells (splice Z off cs).toArray T' (0, 0)) → Fr (fun k => k = b) W W' → W'.heap.size = W.heap.size → wpList Tryz.prog ops Q rest a W') :
    wpList Tryz.prog ops Q (o :: rest) a W := by
  refine wpList_store_mid hgd T x y ho b off cs.toArray hx hy (there_of hb (by simpa using hfit)) (by simpa using hi) (all_oneCell_toArray h1) ?_
  rw [hd]
  exact h _ (setCells_splice b T' Z cs off hfit W hb) (Fr.setCells (M := fun k => k = b) (Fr.refl _ _) b (fun _ => rfl) _ _ _ (Fr.refl _ _)) (setCells_size _ _ _ _)
theorem app_at {base n size bytes : Nat} {v : Value} {xs : List Value} {t e : TypeId} {z : Value} {s x : Operand} {c : Nat} {X : Option Addr} (hown : W.ownsRow base e size v n xs) (m : Nat) (news : List Value)
    (ht : Tryz.prog.underlying t = some (.slice e)) (hinfo : (Tryz.prog.info? e).map (fun i => (i.zero, i.size, i.bytes)) = some (some z, size, bytes)) (hz : z.cells.size = size) (hsz : 0 < size)
    (hl : news.length = m * size) (h1 : ∀ u ∈ news, u.oneCell' = true) (h63 : n + m ≤ 140737488355328) (hbytes : (n + m) * bytes ≤ 140737488355328) (hbase : base ≤ W.heap.size)
    (hgd : o.guard = none) (ho : o.op = .call { callee := .builtin .append, args := #[s, x], argTypes := #[t, t] }) (hs : a.eval s = v) (hx : a.eval x = .slice X m c) (hnews : 0 < m → ∃ ad, X = some ad ∧ ∀ j u, news[j]? = some u → W.cell? (ad.add j) = some u)
    (h : ∀ v' w', w'.ownsRow base e size v' (n + m) (xs ++ news) → Fr (fun k => v.ownBlock = some k) W w' → (v'.ownBlock = v.ownBlock ∨ v'.ownBlock = some W.heap.size) → wpList Tryz.prog ops Q rest (a.put o.dst v') w') :
    wpList Tryz.prog ops Q (o :: rest) a W := by
  by_cases hm : 0 < m
  · obtain ⟨ad, rfl, hn⟩ := hnews hm
    obtain ⟨i0, hi, hz0, hz1, hz2⟩ := info_parts hinfo
    exact wpList_append_own_at _ hgd s x t ho base e i0 z size bytes ht hi hz0 hz1 hz2 hz hsz v n xs hs hown ad m c news hx hl hn h1 (by unfold maxLen; omega) hbytes hbase fun v' w' h2 h3 h4 h5 => h v' w' h2 (Fr.grown (Fr.refl _ _) h3 fun k hk _ => hk) h5
  · obtain rfl : m = 0 := by omega
    obtain rfl : news = [] := List.eq_nil_of_length_eq_zero (by simpa using hl)
    obtain ⟨i0, hi, hz0, hz1, hz2⟩ := info_parts hinfo
    obtain ⟨B, l, c0, rfl, hle⟩ : ∃ B l c0, v = .slice B l c0 ∧ l ≤ c0 := by
      rcases hown.2 with ⟨rfl, _⟩ | ⟨g, cap, cur, rfl, _, _, hc, _⟩
      · exact ⟨_, _, _, rfl, Nat.le_refl _⟩
      · exact ⟨_, _, _, rfl, hc⟩
    exact Lib.wpList_append_run _ hgd s x t t ho _ _ hs hx _ _ (run_app_none ht hi B X l c0 c hle) (h _ _ (by simpa using hown) (Fr.refl _ _) (.inl rfl))
theorem step_at {K : Act → World → Prop} {E : Prop} (N : Option Tmp) (hN : o.dst = N) {base n size bytes : Nat} {v : Value} {xs : List Value} {t e : TypeId} {z : Value} {s x : Operand} {c : Nat} {ad : Addr} (hown : W.ownsRow base e size v n xs) (m : Nat) (news : List Value)
    (ht : Tryz.prog.underlying t = some (.slice e)) (hinfo : (Tryz.prog.info? e).map (fun i => (i.zero, i.size, i.bytes)) = some (some z, size, bytes)) (hz : z.cells.size = size) (hsz : 0 < size)
    (hl : news.length = m * size) (h1 : ∀ u ∈ news, u.oneCell' = true) (h63 : n + m ≤ 140737488355328) (hbytes : (n + m) * bytes ≤ 140737488355328) (hbase : base ≤ W.heap.size)
    (hgd : o.guard = none) (ho : o.op = .call { callee := .builtin .append, args := #[s, x], argTypes := #[t, t] }) (hs : a.eval s = v) (hx : a.eval x = .slice (some ad) m c) (hnews : ∀ j u, news[j]? = some u → W.cell? (ad.add j) = some u)
    (h : ∀ v' w', w'.ownsRow base e size v' (n + m) (xs ++ news) → Fr (fun k => v.ownBlock = some k) W w' → (v'.ownBlock = v.ownBlock ∨ v'.ownBlock = some W.heap.size) → K (a.put N v') w') :
    if Region.wanted o (yielded ops a.tmps) = true then Oper.wp Tryz.prog o a W K Q else E := by
  subst hN
  obtain ⟨i0, hi, hz0, hz1, hz2⟩ := info_parts hinfo
  rw [if_pos (by simp [Region.wanted, hgd])]
  obtain ⟨v', w', hr, h2, h3, h4, h5⟩ := run_append_own_at (P := Tryz.prog) W base t o.type e i0 z size bytes ht hi hz0 hz1 hz2 hz hsz v n xs hown ad m c news hl hnews h1 (by unfold maxLen; omega) hbytes hbase
  unfold Oper.wp execOp
  simp only [ho, resolve, invoke, builtin, Sem.run_bind, Sem.run_pure, Result.andThen_ok, List.map_toArray, List.map_cons, List.map_nil, hs, hx, hr]
  exact h v' w' h2 (Fr.grown (Fr.refl _ _) h3 fun k hk _ => hk) h5
end
end Go.Proofs.YtnbonhinpepgoaaGreat
end
section
set_option linter.unusedVariables false
namespace Go.Proofs.YtnbonhinpepgoaaGreat
open Go.RowKit
def bt8 (n q : Nat) : Nat := n / 2 ^ (8 * q) % 256
def bePre (n many j : Nat) : List Nat := (List.range j).map fun q => bt8 n (many - 1 - q)
def be (n many : Nat) : List Nat := bePre n many many
theorem bePre_succ (n many j : Nat) : bePre n many (j + 1) = bePre n many j ++ [bt8 n (many - 1 - j)] := by
  simp [bePre, List.range_succ]
theorem bePre_len (n many j : Nat) : (bePre n many j).length = j := by simp [bePre]
theorem be_len (n many : Nat) : (be n many).length = many := bePre_len ..
theorem be_lt (n many : Nat) : ∀ x ∈ be n many, x < 256 := by
  intro x hx
  obtain ⟨q, _, rfl⟩ := List.mem_map.1 hx
  exact Nat.mod_lt _ (by decide)
set_option maxHeartbeats 1000000 in
theorem long_own (n many : Nat) (hn : n < 18446744073709551616) (hm : many ≤ 8) (B : Nat) (v : Value) (l : List Nat) (hl : l.length < 1000000000) (w : World) (hB : B ≤ w.heap.size) (hO : w.ownsRow B 5 1 v l.length (n8 l)) :
    Calls Tryz.prog 225 #[v, .int .u64 n, .int .i64 many] w fun e w' => ∃ v', e = .returned v' ∧ w'.ownsRow B 5 1 v' (l ++ be n many).length (n8 (l ++ be n many)) ∧ Fr (fun k => B ≤ k) w w' := by
  obtain ⟨X, cap, rfl⟩ := own_form hO
  have HO := Lib.hid hO
  clear hO
  generalize hLL : l ++ be n many = L
  have HLL := Lib.hid hLL
  clear hLL
  go_enter Tryz.func225, Tryz.ntmps225
  go_wp2
  go_loopw [7, 0] (fun t v wr => ∃ (j : Nat) (i : Int), t = .int .i64 i ∧ i = (many : Int) - 1 - (j : Int) ∧ j ≤ many ∧ Hid (wr.ownsRow B 5 1 v (l ++ bePre n many j).length (n8 (l ++ bePre n many j))) ∧ Hid (Fr (fun k => B ≤ k) w wr)) (fun t _ _ => (intOf t + 1).toNat)
  case atStart => exact ⟨0, _, rfl, by omega, Nat.zero_le _, Lib.hid (by have := HO.out; simpa [bePre] using this), Lib.hid (Fr.refl _ _)⟩
  case round =>
    clear HO
    obtain ⟨j, i, rfl, hi, hj, HW, HF⟩ := hrel
    by_cases h0 : 0 ≤ i
    · obtain ⟨q, rfl⟩ : ∃ q : Nat, i = (q : Int) := ⟨i.toNat, by omega⟩
      have hq : q = many - 1 - j := by omega
      have hq8 : q < 8 := by omega
      have hb : Hid ((n : Int) / 2 ^ (8 * q) % 256 = ((bt8 n (many - 1 - j) : Nat) : Int)) := by
        show _ = _
        rw [← hq, bt8, Int.natCast_emod, Int.natCast_ediv, Int.natCast_pow]
        rfl
      have HQ := Lib.hid hq
      have hz := HF.out.size
      have hln : (l ++ bePre n many j).length = l.length + j := by rw [List.length_append, bePre_len]
      have HL := Lib.hid hln
      have HI := Lib.hid hi
      clear hi hq hln
      go_wp2_with (at_builtin; rw [hb.out]; refine app_lit HW.out 1 [.int .u8 ((bt8 n (many - 1 - j) : Nat) : Int)] Tryz.underlying42 byteInfo rfl (by decide) rfl (by simp [Value.oneCell']) (by rw [HL.out]; omega) (by rw [HL.out]; omega) (by omega) rfl rfl rfl rfl ?_; intro v' w2 hO2 hF2)
      have HW2 := Lib.hid (show w2.ownsRow B 5 1 v' (l ++ bePre n many (j + 1)).length (n8 (l ++ bePre n many (j + 1))) from by
        rw [bePre_succ, ← List.append_assoc, List.length_append (bs := [_]), List.length_singleton, n8, List.map_append]
        exact hO2)
      have HF2 := Lib.hid (HF.out.trans hF2)
      clear hO2 hF2
      go_roundw
      case rel => exact ⟨j + 1, _, rfl, by have := HI.out; omega, by have := HI.out; omega, HW2, HF2⟩
      case measure => simp [intOf] <;> omega
    · obtain rfl : j = many := by omega
      have d0 : decide (i ≥ 0) = false := decide_eq_false h0
      go_wp2
      go_ret
      exact ⟨u0, rfl, by rw [← HLL.out]; exact HW.out, HF.out⟩
theorem clone_b (l : List Nat) (sp : Option Addr) (cap : Nat) (hl : l.length < 1000000000) (w : World) (hs : Has w sp l) :
    Calls Tryz.prog 85 #[.slice sp l.length cap] w fun e w' => ∃ v, e = .returned v ∧ w'.ownsRow w.heap.size 5 1 v l.length (n8 l) ∧ Fr (fun _ => False) w w' := by
  have hnil := fun (A : Option Addr) (W : World) => Lib.run_eql_slice_nil (P := Tryz.prog) W 42 _ A l.length cap 0 0 Tryz.underlying42
  have HS := Lib.hid hs
  clear hs
  rcases sp with _ | ad
  · have h0 : l = [] := by
      rcases l with _ | ⟨x, t⟩
      · rfl
      · obtain ⟨ad, h9, _⟩ := HS.out (by simp)
        cases h9
    subst h0
    clear HS
    simp only [List.length_nil] at hnil
    go_enter Tryz.func85, Tryz.ntmps85
    go_wp2
    go_ret
    exact ⟨_, rfl, World.ownsRow_nil _ _ _ _, Fr.refl _ _⟩
  · have hE : ∀ W : World, (W.alloc (.cells #[] 5)).ownsRow W.heap.size 5 1 (.slice (some ⟨W.heap.size, 0, none⟩) 0 0) 0 [] := fun W => own_empty (heap_alloc_new W _) (Nat.le_refl _)
    have hn : ∀ W, Fr (fun _ => False) w W → Hid (0 < l.length → ∃ a, some ad = some a ∧ ∀ j u, (n8 l)[j]? = some u → W.cell? (a.add j) = some u) := fun W hF => show 0 < l.length → _ from fun h0 => by
      obtain ⟨a, e, hc⟩ := HS.out h0
      exact ⟨a, e, fun j u hu => hF.cell (hc j u hu) id⟩
    have hl8 : Hid ((n8 l).length = l.length * 1) := show _ = _ by rw [n8_len]; omega
    go_enter Tryz.func85, Tryz.ntmps85
    go_wp2_with (at_builtin; refine app_at (hE w) l.length (n8 l) Tryz.underlying42 byteInfo rfl (by decide) hl8.out (n8_one _) (by omega) (by omega) (by simp) rfl rfl rfl rfl (hn _ ((Fr.refl _ _).alloc _)).out ?_; intro v' w2 hO2 hF2 hL2)
    go_ret
    refine ⟨v', rfl, ?_, ((Fr.refl _ _).alloc _).then_ hF2 (fun k hk e => ?_)⟩
    · simpa using hO2
    · simp only [Value.ownBlock, Option.some.injEq] at e
      omega
end Go.Proofs.YtnbonhinpepgoaaGreat
end
section
set_option linter.unusedVariables false
namespace Go.Proofs.YtnbonhinpepgoaaGreat
open Go.RowKit
theorem fill_fold (off : Nat) : ∀ (cs Z : List Value) (k : Nat), off + k + cs.length ≤ Z.length →
    (cs.zipIdx k).foldl (fun (a : Array Value) (x : Value × Nat) => a.setIfInBounds (off + x.2) x.1) Z.toArray = (splice Z (off + k) cs).toArray
  | [], Z, k, h => by simp [splice]
  | c :: cs, Z, k, h => by
    rw [List.zipIdx_cons, List.foldl_cons]
    have e : Z.toArray.setIfInBounds (off + k) c = (Z.set (off + k) c).toArray := List.setIfInBounds_toArray ..
    simp only [e]
    rw [fill_fold off cs _ (k + 1) (by simp at h ⊢; omega)]
    congr 1
    unfold splice
    simp only [List.length_cons] at h ⊢
    have hlt : off + k < Z.length := by omega
    have e1 : (Z.set (off + k) c).take (off + (k + 1)) = Z.take (off + k) ++ [c] := by
      rw [show off + (k + 1) = (off + k) + 1 by omega, List.take_add_one, List.take_set_of_le (Nat.le_refl _), List.getElem?_set_self hlt]
      rfl
    rw [e1, List.drop_set_of_lt (by omega), show off + (k + 1) + cs.length = off + k + (cs.length + 1) by omega]
    simp
theorem fill_arr (off : Nat) (cs Z : List Value) (h : off + cs.length ≤ Z.length) :
    cs.toArray.zipIdx.foldl (fun (a : Array Value) (x : Value × Nat) => a.setIfInBounds (off + x.2) x.1) Z.toArray = (splice Z off cs).toArray := by
  have := fill_fold off cs Z 0 (by omega)
  rw [Nat.add_zero] at this
  rw [← this, ← Array.foldl_toList]
  simp
section
variable {P : Program}
theorem run_build2 (T : TypeId) (fields : Array Field) (hu : P.underlying T = some (.struct fields)) (Z : List Value) (hz : ∀ w, (zeroValue T).run P w = .ok (.agg Z.toArray) w) (n0 n1 : Nat)
    (hp : ∀ w, (fields.mapM fun f => (do pure (f.offset, ← sizeOf f.type) : Sem (Nat × Nat))).run P w = .ok #[(0, n0), (n0, n1)] w) (hZ : Z.length = n0 + n1)
    (v0 v1 : Value) (c0 c1 : List Value) (h0 : v0.cells = c0.toArray) (h1 : v1.cells = c1.toArray) (l0 : c0.length = n0) (l1 : c1.length = n1) (w : World) :
    (Instr.build T #[(0, v0), (1, v1)]).run P w = .ok (.agg (c0 ++ c1).toArray) w := by
  have hs0 : splice Z 0 c0 = c0 ++ Z.drop n0 := by simp [splice, l0]
  have hs1 : splice (c0 ++ Z.drop n0) n0 c1 = c0 ++ c1 := by
    unfold splice
    rw [List.take_append_of_le_length (by omega), List.take_of_length_le (by omega), List.drop_eq_nil_of_le (by simp; omega)]
    simp
  have hu' := run_underlying (P := P) (w := w) hu
  have hfill : Instr.fill (#[(0, n0), (n0, n1)][·]?) Z.toArray [(0, v0), (1, v1)] = some (c0 ++ c1).toArray := by
    have e0 := fill_arr 0 c0 Z (by omega)
    have e1 := fill_arr n0 c1 (splice Z 0 c0) (by rw [hs0]; simp; omega)
    rw [hs0, hs1] at e1
    rw [hs0] at e0
    simp only [Nat.zero_add] at e0
    simp only [Instr.fill, h0, h1, List.getElem?_toArray, List.getElem?_cons_zero, List.getElem?_cons_succ, List.size_toArray, l0, l1, Nat.zero_add, e0]
    rw [if_neg (by simp; omega), if_neg (by simp; omega)]
    exact congrArg some e1
  unfold Instr.build
  simp only [Sem.run_bind, hz, Result.andThen_ok, hu', hp, Value.cells]
  rw [hfill]
  rfl
theorem run_buildSlice1 (t e : TypeId) (hu : P.underlying t = some (.slice e)) (n : Nat) (hs : ∀ w, (sizeOf e).run P w = .ok n w) (z : Value) (hz : ∀ w, (zeroValue e).run P w = .ok z w) (hzn : z.cells.size = n) (hn : 0 < n) (hn2 : n ≤ 16777216)
    (v : Value) (cs : List Value) (hv : v.cells = cs.toArray) (hl : cs.length = n) (w : World) :
    (Instr.buildSlice t 1 #[(0, v)]).run P w = .ok (.slice (some ⟨w.heap.size, 0, none⟩) 1 1) (w.alloc (.cells cs.toArray e)) := by
  have hu' := run_underlying (P := P) (w := w) hu
  obtain ⟨Z, hZ⟩ : ∃ Z : List Value, (Array.range (1 * n)).map (fun i => z.cells[i % z.cells.size]!) = Z.toArray := ⟨_, rfl⟩
  have hZl : Z.length = n := by
    have := congrArg Array.size hZ
    simpa using this.symm
  have hfill : Instr.fill (fun i => some (i * n, n)) Z.toArray [(0, v)] = some cs.toArray := by
    have e0 := fill_arr 0 cs Z (by omega)
    rw [splice_all _ _ (by omega)] at e0
    simp only [Nat.zero_add] at e0
    simp only [Instr.fill, hv, Nat.zero_mul, List.size_toArray, hl, Nat.zero_add, e0]
    rw [if_neg (by simp; omega)]
  unfold Instr.buildSlice
  simp only [Sem.run_bind, hu', hs, Result.andThen_ok]
  rw [if_neg (by omega), if_neg (by omega)]
  simp only [Sem.run_bind, hz, Result.andThen_ok, Sem.run_pure, hZ]
  rw [hfill]
  rfl
end
section
variable {P : Program} {ops : Array Oper} {rest : List Oper} {o : Oper} {a : Act} {Q : Exit → Act → World → Prop} {W : World}
theorem exec_slice1 (t : TypeId) (x : Operand) (ho : o.op = .buildSlice t 1 #[(0, x)]) (v : Value) (hx : a.eval x = v) (v' : Value) (W' : World)
    (hrun : (Instr.buildSlice t 1 #[(0, v)]).run P W = .ok v' W') : (execOp a.eval o).run P W = .ok (.value v') W' := by
  unfold execOp
  rw [ho]
  show (do pure (Next.value (← Instr.buildSlice t 1 (#[(0, x)].map fun y => match y with | (i, o) => (i, a.eval o)))) : Sem Next).run _ _ = _
  rw [show (#[(0, x)].map fun y => match y with | (i, o) => (i, a.eval o)) = #[(0, v)] by rw [← hx]; simp, Sem.run_bind, hrun]
  rfl
theorem step_slice1 {K : Act → World → Prop} {E : Prop} (hgd : o.guard = none) (N : Option Tmp) (hN : o.dst = N) (t : TypeId) (x : Operand) (ho : o.op = .buildSlice t 1 #[(0, x)]) (v : Value) (hx : a.eval x = v) (e : TypeId) (cs : Array Value)
    (hrun : ∀ w, (Instr.buildSlice t 1 #[(0, v)]).run P w = .ok (.slice (some ⟨w.heap.size, 0, none⟩) 1 1) (w.alloc (.cells cs e)))
    (h : K (a.put N (.slice (some ⟨W.heap.size, 0, none⟩) 1 1)) (W.alloc (.cells cs e))) :
    if Region.wanted o (yielded ops a.tmps) = true then Oper.wp P o a W K Q else E := by
  subst hN
  rw [if_pos (by simp [Region.wanted, hgd])]
  unfold Oper.wp
  rw [exec_slice1 t x ho v hx _ _ (hrun W)]
  exact h
theorem at_qdst {C : World → Prop} {Q : Act → Prop} {N : Tmp} (_hN : o.dst = some N) (h : wpQuiet Tryz.prog ops C Q (o :: rest) a) : wpQuiet Tryz.prog ops C Q (o :: rest) a := h
theorem exec_arrayAt (t : TypeId) (x : Operand) (ho : o.op = .sliceToArrayPointer t x) (v : Value) (hx : a.eval x = v) (v' : Value) (hrun : (Instr.arrayAt t v).run P W = .ok v' W) : (execOp a.eval o).run P W = .ok (.value v') W := by
  unfold execOp
  rw [ho]
  show (do pure (Next.value (← Instr.arrayAt t (a.eval x))) : Sem Next).run _ _ = _
  rw [hx, Sem.run_bind, hrun]
  rfl
theorem exec_load_mid (ty : TypeId) (x : Operand) (ho : o.op = .load ty x) (b off : Nat) (hx : a.eval x = .pointer (some ⟨b, off, none⟩)) (cs : List Value) (d : TypeDesc) (hc : W.rangeAt b off cs)
    (hu : P.underlying ty = some d) (hd : d.isRow = true) (hi : (P.info? ty).map (·.size) = some cs.length) : (execOp a.eval o).run P W = .ok (.value (.agg cs.toArray)) W := by
  unfold execOp
  simp only [ho, hx, Instr.loadAt, Instr.sureAddr, Sem.run_bind, Sem.run_pure, Result.andThen_ok, run_loadVar_mid W b off ty cs d hc hu hd hi]
theorem exec_build2 (t : TypeId) (x y : Operand) (ho : o.op = .build t #[(0, x), (1, y)]) (u v : Value) (hx : a.eval x = u) (hy : a.eval y = v) (v' : Value) (hrun : (Instr.build t #[(0, u), (1, v)]).run P W = .ok v' W) : (execOp a.eval o).run P W = .ok (.value v') W := by
  unfold execOp
  rw [ho]
  show (do pure (Next.value (← Instr.build t (#[(0, x), (1, y)].map fun y => match y with | (i, o) => (i, a.eval o)))) : Sem Next).run _ _ = _
  rw [show (#[(0, x), (1, y)].map fun y => match y with | (i, o) => (i, a.eval o)) = #[(0, u), (1, v)] by rw [← hx, ← hy]; simp, Sem.run_bind, hrun]
  rfl
end
end Go.Proofs.YtnbonhinpepgoaaGreat
end
section
set_option linter.unusedVariables false
namespace Go.Proofs.YtnbonhinpepgoaaGreat
open Go.RowKit
theorem own_has {w : World} {B n : Nat} {v : Value} {l : List Nat} (h : w.ownsRow B 5 1 v n (n8 l)) : ∃ X cap, v = .slice X n cap ∧ n = l.length ∧ n ≤ cap ∧ Has w X l := by
  have hn : l.length = n := by have := h.1; rw [n8_len] at this; omega
  rcases h.2 with ⟨rfl, rfl⟩ | ⟨g, cap, cur, rfl, hb, hh, hc, hm, hs, ht⟩
  · exact ⟨none, 0, rfl, hn.symm, Nat.le_refl _, fun h0 => by omega⟩
  · refine ⟨_, cap, rfl, hn.symm, hc, fun _ => ⟨_, rfl, fun j v hv => ?_⟩⟩
    exact h.cells (g := g) rfl j v hv
set_option maxHeartbeats 1000000 in
theorem part_ok (l : List Nat) (sp : Option Addr) (cap : Nat) (hl : l.length < 100000000) (sg n many : Nat) (hn : n < 18446744073709551616) (hm : many ≤ 8) (w : World) (hs : Has w sp l) :
    Calls Tryz.prog 195 #[.slice sp l.length cap, .int .u8 sg, .int .u64 n, .int .i64 many] w fun e w' => ∃ v, e = .returned v ∧ w'.ownsRow w.heap.size 5 1 v (l ++ (sg :: be n many)).length (n8 (l ++ (sg :: be n many))) ∧ Fr (fun _ => False) w w' := by
  have hc := clone_b l sp cap (by omega) w hs
  have hlong := fun v W h1 h2 => long_own n many hn hm w.heap.size v (l ++ [sg]) (by simp; omega) W h1 h2
  have HLO := Lib.hid hlong
  clear hlong hs
  generalize hLL : l ++ (sg :: be n many) = L
  have HLL := Lib.hid (show (l ++ [sg]) ++ be n many = L by rw [← hLL]; simp)
  clear hLL
  go_enter Tryz.func195, Tryz.ntmps195
  go_wp2_with (first
    | (go_at_call 85; refine hc.mono ?_; rintro e w1 ⟨v1, rfl, hO1, hF1⟩; have HO1 := Lib.hid hO1; have HF1 := Lib.hid hF1; have hz1 := hF1.size; clear hO1 hF1 hc)
    | (at_builtin; refine app_lit HO1.out 1 [.int .u8 ((sg : Nat) : Int)] Tryz.underlying42 byteInfo rfl (by decide) rfl (by simp [Value.oneCell']) (by omega) (by omega) hz1 rfl rfl rfl rfl ?_; intro v2 w2 hO2 hF2; have HO2 := Lib.hid (show w2.ownsRow w.heap.size 5 1 v2 (l ++ [sg]).length (n8 (l ++ [sg])) from by rw [List.length_append, List.length_singleton, n8, List.map_append]; exact hO2); have HF2 := Lib.hid (HF1.out.then_ hF2 (fun k hk e => by omega)); have hz2 := HF2.out.size; clear hO2 hF2)
    | (go_at_call 225; refine (HLO.out v2 w2 hz2 HO2.out).mono ?_; rintro e w3 ⟨v3, rfl, hO3, hF3⟩; have HO3 := Lib.hid hO3; have HF3 := Lib.hid (HF2.out.then_ hF3 (fun k hk e => by omega)); clear hO3 hF3))
  go_ret
  exact ⟨v3, rfl, by rw [← HLL.out]; exact HO3.out, HF3.out⟩
def cU (n : Nat) : List Nat := 117 :: be n 8
def cL (n : Nat) : List Nat := 108 :: be n 4
def cT (s : List Nat) : List Nat := (115 :: be s.length 4) ++ s
def cB (s : List Nat) : List Nat := (98 :: be s.length 4) ++ s
theorem uint_ok (l : List Nat) (sp : Option Addr) (cap : Nat) (hl : l.length < 100000000) (n : Nat) (hn : n < 18446744073709551616) (w : World) (hs : Has w sp l) :
    Calls Tryz.prog 138 #[.slice sp l.length cap, .int .u64 n] w fun e w' => ∃ v, e = .returned v ∧ w'.ownsRow w.heap.size 5 1 v (l ++ cU n).length (n8 (l ++ cU n)) ∧ Fr (fun _ => False) w w' := by
  have hp := part_ok l sp cap hl 117 n 8 hn (by omega) w hs
  clear hs
  go_enter Tryz.func138, Tryz.ntmps138
  go_wp2_with (go_at_call 195; refine hp.mono ?_; rintro e w1 ⟨v1, rfl, hO1, hF1⟩; have HO1 := Lib.hid hO1; have HF1 := Lib.hid hF1; clear hO1 hF1 hp)
  go_ret
  exact ⟨v1, rfl, HO1.out, HF1.out⟩
theorem list_ok (l : List Nat) (sp : Option Addr) (cap : Nat) (hl : l.length < 100000000) (n : Nat) (hn : n < 2147483648) (w : World) (hs : Has w sp l) :
    Calls Tryz.prog 139 #[.slice sp l.length cap, .int .i64 n] w fun e w' => ∃ v, e = .returned v ∧ w'.ownsRow w.heap.size 5 1 v (l ++ cL n).length (n8 (l ++ cL n)) ∧ Fr (fun _ => False) w w' := by
  have hp := part_ok l sp cap hl 108 n 4 (by omega) (by omega) w hs
  have d0 : decide ((n : Int) < 0) = false := decide_eq_false (by omega)
  have d1 : decide ((n : Int) > 2147483647) = false := decide_eq_false (by omega)
  clear hs
  go_enter Tryz.func139, Tryz.ntmps139
  go_wp2_with (go_at_call 195; refine hp.mono ?_; rintro e w1 ⟨v1, rfl, hO1, hF1⟩; have HO1 := Lib.hid hO1; have HF1 := Lib.hid hF1; clear hO1 hF1 hp)
  go_ret
  exact ⟨v1, rfl, HO1.out, HF1.out⟩
set_option maxHeartbeats 1000000 in
theorem bytes_ok (l b : List Nat) (sp sb : Option Addr) (cap cb : Nat) (hl : l.length < 100000000) (hb : b.length < 100000000) (w : World) (hs : Has w sp l) (hsb : Has w sb b) :
    Calls Tryz.prog 137 #[.slice sp l.length cap, .slice sb b.length cb] w fun e w' => ∃ v, e = .returned v ∧ w'.ownsRow w.heap.size 5 1 v (l ++ cB b).length (n8 (l ++ cB b)) ∧ Fr (fun _ => False) w w' := by
  have hp := part_ok l sp cap hl 98 b.length 4 (by omega) (by omega) w hs
  have hn : ∀ W, Fr (fun _ => False) w W → Hid (0 < b.length → ∃ a, sb = some a ∧ ∀ j u, (n8 b)[j]? = some u → W.cell? (a.add j) = some u) := fun W hF => show 0 < b.length → _ from fun h0 => by
    obtain ⟨a, e, hc⟩ := hsb h0
    exact ⟨a, e, fun j u hu => hF.cell (hc j u hu) id⟩
  have hl8 : Hid ((n8 b).length = b.length * 1) := show _ = _ by rw [n8_len]; omega
  generalize hLL : l ++ cB b = L
  have HLL := Lib.hid (show (l ++ (98 :: be b.length 4)) ++ b = L by rw [← hLL, cB]; simp)
  have hlen := Lib.hid (show (l ++ (98 :: be b.length 4)).length = l.length + 5 by simp [be_len])
  clear hLL hs hsb
  go_enter Tryz.func137, Tryz.ntmps137
  go_wp2_with (first
    | (go_at_call 195; refine hp.mono ?_; rintro e w1 ⟨v1, rfl, hO1, hF1⟩; have HO1 := Lib.hid hO1; have HF1 := Lib.hid hF1; have hz1 := hF1.size; clear hO1 hF1 hp)
    | (at_builtin; refine app_at HO1.out b.length (n8 b) Tryz.underlying42 byteInfo rfl (by decide) hl8.out (n8_one _) (by rw [hlen.out]; omega) (by rw [hlen.out]; omega) hz1 rfl rfl rfl rfl (hn w1 HF1.out).out ?_; intro v2 w2 hO2 hF2 hL2; have HO2 := Lib.hid hO2; have HF2 := Lib.hid (HF1.out.then_ hF2 (fun k hk e => by have := (HO1.out.lt k e).1; omega)); clear hO2 hF2 hL2))
  go_ret
  exact ⟨v2, rfl, by rw [← HLL.out, List.length_append (bs := b), n8, List.map_append]; exact HO2.out, HF2.out⟩
end Go.Proofs.YtnbonhinpepgoaaGreat
end
section
set_option linter.unusedVariables false
namespace Go.Proofs.YtnbonhinpepgoaaGreat
open Go.RowKit
def lastW (l : List (Nat × List Nat)) (i : Nat) (b : List Nat) : List Nat := l.foldl (fun b p => if p.1 = i then p.2 else b) b
def Dk.get (D : Dk) (i : Nat) : List Nat := lastW D.ca i (D.st.getD i [])
theorem flat_at {α : Type} (n : Nat) (f : α → List Value) : ∀ (l : List α) (i j : Nat) (x : α), (∀ y ∈ l, (f y).length = n) → l[i]? = some x → j < n → (l.flatMap f)[i * n + j]? = (f x)[j]?
  | [], i, j, x, _, h, _ => by simp at h
  | y :: l, 0, j, x, hn, h, hj => by
    obtain rfl : y = x := by simpa using h
    rw [List.flatMap_cons, List.getElem?_append_left (by rw [hn y (List.mem_cons_self ..)]; omega)]
    simp
  | y :: l, i + 1, j, x, hn, h, hj => by
    have hy := hn y (List.mem_cons_self ..)
    rw [List.flatMap_cons, List.getElem?_append_right (by rw [hy, Nat.add_mul]; omega), hy, show (i + 1) * n + j - n = i * n + j by rw [Nat.add_mul]; omega]
    exact flat_at n f l i j x (fun z hz => hn z (List.mem_cons_of_mem _ hz)) (by simpa using h) hj
theorem flat_len {α : Type} (n : Nat) (f : α → List Value) : ∀ (l : List α), (∀ y ∈ l, (f y).length = n) → (l.flatMap f).length = l.length * n
  | [], _ => by simp
  | y :: l, hn => by
    rw [List.flatMap_cons, List.length_append, hn y (List.mem_cons_self ..), flat_len n f l (fun z hz => hn z (List.mem_cons_of_mem _ hz)), List.length_cons, Nat.add_mul]
    omega
theorem wrCell_one (p : Nat × List Nat) : ∀ v ∈ wrCell p, v.oneCell' = true := by
  intro v hv
  rcases List.mem_cons.1 hv with rfl | hv
  · rfl
  · exact n8_one _ v hv
section
variable {g gs : Nat} {cv : Value} {D : Dk} {w : World}
theorem DRep.sec (h : DRep g gs cv D w) {i : Nat} {s : List Nat} (hi : D.st[i]? = some s) : w.rangeAt gs (i * 512) (n8 s) := by
  intro j v hv
  have hj : j < 512 := by
    have := (List.getElem?_eq_some_iff.1 hv).1
    rw [n8_len, (h.ok.sec s (List.mem_of_getElem? hi)).len] at this
    exact this
  rw [cell_of_row w gs _ _ _ _ h.sts, List.getElem?_toArray]
  exact (flat_at 512 (fun s => n8 s) D.st i j s (fun y hy => by rw [n8_len]; exact (h.ok.sec y hy).len) hi hj).trans hv
theorem DRep.wr (h : DRep g gs cv D w) {i : Nat} {p : Nat × List Nat} (hi : D.ca[i]? = some p) : ∃ c cap, cv = .slice (some ⟨c, 0, none⟩) D.ca.length cap ∧ w.rangeAt c (i * 513) (wrCell p) := by
  have hlt : i < D.ca.length := (List.getElem?_eq_some_iff.1 hi).1
  rcases h.own.2 with ⟨_, h0⟩ | ⟨c, cap, cur, rfl, _, hh, hc, hm, hs, ht⟩
  · omega
  · refine ⟨c, cap, rfl, fun j v hv => ?_⟩
    have hw : ∀ y ∈ D.ca, (wrCell y).length = 513 := fun y hy => by rw [wrCell, List.length_cons, n8_len, (h.ok.cac y hy).2.len]
    have hj : j < 513 := by
      have := (List.getElem?_eq_some_iff.1 hv).1
      rw [hw p (List.mem_of_getElem? hi)] at this
      exact this
    have := h.own.cells (g := c) rfl (i * 513 + j) v ((flat_at 513 wrCell D.ca i j p hw hi hj).trans hv)
    rw [addr_add0] at this
    exact this
end
theorem alloc_sector : AllocOf 167 512 := ⟨(List.replicate 512 (.int .u8 0)).toArray, by kernel_rfl, fun w => by kernel_rfl⟩
theorem alloc_write : AllocOf 169 513 := ⟨(.int .i64 0 :: List.replicate 512 (.int .u8 0)).toArray, by kernel_rfl, fun w => by kernel_rfl⟩
theorem isz_sector : (Tryz.prog.info? 167).map (·.size) = some 512 := by kernel_rfl
theorem isz_write : (Tryz.prog.info? 169).map (·.size) = some 513 := by kernel_rfl
section
variable {g gs : Nat} {cv : Value} {D : Dk} {w : World}
theorem range_tail {W : World} {b : Nat} {T : TypeId} {x : Value} {l : List Value} (h : W.heap[b]? = some (.cells (x :: l).toArray T (0, 0))) : W.rangeAt b 1 l := by
  intro j v hv
  rw [cell_of_row W b _ _ _ _ h, List.getElem?_toArray, Nat.add_comm, List.getElem?_cons_succ]
  exact hv
theorem lastW_take (l : List (Nat × List Nat)) (i : Nat) (s : List Nat) (j : Nat) (p : Nat × List Nat) (h : l[j]? = some p) : lastW (l.take (j + 1)) i s = if p.1 = i then p.2 else lastW (l.take j) i s := by
  unfold lastW
  rw [List.take_add_one, h]
  simp
theorem lastW_sec (l : List (Nat × List Nat)) (i : Nat) (s : List Nat) (hs : IsSec s) (hl : ∀ p ∈ l, IsSec p.2) : IsSec (lastW l i s) := by
  induction l generalizing s with
  | nil => exact hs
  | cons p l ih =>
    unfold lastW
    rw [List.foldl_cons]
    refine ih _ ?_ (fun q hq => hl q (List.mem_cons_of_mem _ hq))
    split
    · exact hl p (List.mem_cons_self ..)
    · exact hs
set_option maxRecDepth 10000 in
set_option maxHeartbeats 1000000 in
theorem read_ok (h : DRep g gs cv D w) (i : Nat) (hi : i < D.st.length) (hd : D.down = false) :
    Calls Tryz.prog 80 #[.pointer (some ⟨g, 0, none⟩), .int .i64 i] w fun r w' => ∃ k, r = .returned (.tuple #[.slice (some ⟨k, 0, none⟩) 512 512, .int .i64 0]) ∧ w'.heap[k]? = some (.cells (n8 (D.get i)).toArray 167 (0, 0)) ∧ w.heap.size ≤ k ∧ Fr (fun _ => False) w w' := by
  have hlen := h.ok.hi
  have hm := may_any h i (by omega) (by omega)
  rw [show D.may i = 0 by unfold Dk.may; rw [hd, if_neg (by simp), if_neg (by omega)]] at hm
  obtain ⟨s, hs⟩ : ∃ s, D.st[i]? = some s := ⟨_, List.getElem?_eq_getElem hi⟩
  have hsec := Lib.hid (h.sec hs)
  have hsl := Lib.hid (h.ok.sec s (List.mem_of_getElem? hs))
  obtain ⟨X, cap, hcv⟩ := own_form h.own
  subst hcv
  have c0 := h.c0
  have c1 := h.c1
  have b0 : (0 : Int) ≤ (i : Int) ∧ (i : Int) < (D.st.length : Int) := ⟨by omega, by omega⟩
  have hs8 := Lib.hid (show D.st.getD i [] = s by rw [List.getD_eq_getElem?_getD, hs]; rfl)
  have hcl : D.ca.length ≤ 9223372036854775807 := by
    have h1 := h.own.2
    rcases h1 with ⟨_, h0⟩ | ⟨c, cap, cur, e1, _, _, hc, hm', _, _⟩
    · omega
    · unfold maxLen at hm'; omega
  clear hs
  go_enter Tryz.func80, Tryz.ntmps80
  go_wp2_with (first
    | (go_at_call 145; refine hm.mono ?_; rintro e w' ⟨rfl, rfl⟩)
    | ((with_reducible refine at_dst (N := 22) rfl ?_); refine wpList_load_mid rfl 167 (.tmp 21) rfl gs (i * 512) rfl (n8 s) _ hsec.out Tryz.underlying167 rfl (by rw [n8_len, hsl.out.len]; exact isz_sector) ?_; simp only [Act.put, List.setIfInBounds_toArray, List.set_cons_zero, List.set_cons_succ])
    | ((with_reducible refine at_dst (N := 7) rfl ?_); refine wpList_alloc rfl 167 512 alloc_sector rfl ?_; intro Z W1 hZ hW hF hz; simp only [Act.put, List.setIfInBounds_toArray, List.set_cons_zero, List.set_cons_succ])
    | ((with_reducible refine at_store (p := 7) rfl ?_); refine wpList_put rfl rfl 167 (.tmp 7) (.tmp 22) rfl w.heap.size 0 (n8 s) Z _ rfl rfl hW (by rw [hZ, n8_len, hsl.out.len]; omega) (by rw [n8_len, hsl.out.len]; exact isz_sector) (n8_one _) ?_; intro W2 hW2 hF2 hz2; have hFF := hF.then_ hF2 (fun k hk e => by omega); have c1' := (h.fr hFF (fun _ _ h => h)).c1; rw [splice_all _ _ (by rw [hZ, n8_len, hsl.out.len])] at hW2; have HF := Lib.hid hFF; have HW2 := Lib.hid hW2; have HH := Lib.hid h; clear hFF hW2 hF hF2 hW c0 c1 hm h))
  go_loopw [28] (fun t wr => ∃ j : Nat, t = .int .i64 j ∧ j ≤ D.ca.length ∧ Hid (wr.heap[w.heap.size]? = some (.cells (n8 (lastW (D.ca.take j) i s)).toArray 167 (0, 0))) ∧ Hid (Fr (fun _ => False) w wr)) (fun t _ => D.ca.length - (intOf t).toNat)
  case atStart => exact ⟨0, rfl, Nat.zero_le _, HW2, HF⟩
  case round =>
    clear c1' HF HW2 hz2 hz hZ
    obtain ⟨j, rfl, hj, HB, HF⟩ := hrel
    by_cases hlt : j < D.ca.length
    · obtain ⟨p, hp⟩ : ∃ p, D.ca[j]? = some p := ⟨_, List.getElem?_eq_getElem hlt⟩
      have hDr := HH.out.fr HF.out (fun _ _ h => h)
      obtain ⟨c, cap', hX, hr⟩ := hDr.wr hp
      simp only [Value.slice.injEq] at hX
      obtain ⟨rfl, -, rfl⟩ := hX
      have HR := Lib.hid hr
      have hpo := Lib.hid (HH.out.ok.cac p (List.mem_of_getElem? hp))
      have hwl := Lib.hid (show (wrCell p).length = 513 by rw [wrCell, List.length_cons, n8_len, hpo.out.2.len])
      have hlast := Lib.hid (lastW_take D.ca i s j p hp)
      have hsq := Lib.hid (lastW_sec (D.ca.take j) i s hsl.out (fun q hq => (HH.out.ok.cac q (List.mem_of_mem_take hq)).2))
      have hz0 := HF.out.size
      have hblt := block_lt HB.out
      clear hr hDr hp
      by_cases hpi : p.1 = i
      · have d0 : ((p.1 : Int) == (i : Int)) = true := by simp [hpi]
        go_wp2_with (first
          | ((with_reducible refine at_dst (N := 31) rfl ?_); refine wpList_load_mid rfl 169 (.tmp 30) rfl c (j * 513) rfl (wrCell p) _ HR.out Tryz.underlying169 rfl (by rw [hwl.out]; exact isz_write) ?_; simp only [Act.put, List.setIfInBounds_toArray, List.set_cons_zero, List.set_cons_succ])
          | ((with_reducible refine at_dst (N := 9) rfl ?_); refine wpList_alloc rfl 169 513 alloc_write rfl ?_; intro Z W1 hZ hW hF hz; simp only [Act.put, List.setIfInBounds_toArray, List.set_cons_zero, List.set_cons_succ])
          | ((with_reducible refine at_store (p := 9) rfl ?_); refine wpList_put rfl rfl 169 (.tmp 9) (.tmp 31) rfl wr.heap.size 0 (wrCell p) Z _ rfl rfl hW (by rw [hZ, hwl.out]; omega) (by rw [hwl.out]; exact isz_write) (wrCell_one _) ?_; intro W2 hW2 hF2 hz2; rw [splice_all _ _ (by rw [hZ, hwl.out])] at hW2; have hc := cell_of_row W2 _ 0 _ _ _ hW2; have hc' : W2.cell? ⟨wr.heap.size, 0, none⟩ = some (.int .i64 (p.1 : Int)) := hc; clear hc; have HW2 := Lib.hid hW2; have HFF := Lib.hid (hF.then_ hF2 (fun k hk e => by omega)); clear hW2 hF hF2 hW)
          | ((with_reducible refine at_dst (N := 37) rfl ?_); refine wpList_load_mid rfl 167 (.tmp 36) rfl wr.heap.size 1 rfl (n8 p.2) _ (range_tail HW2.out) Tryz.underlying167 rfl (by rw [n8_len, hpo.out.2.len]; exact isz_sector) ?_; simp only [Act.put, List.setIfInBounds_toArray, List.set_cons_zero, List.set_cons_succ])
          | ((with_reducible refine at_store (p := 7) rfl ?_); refine wpList_put rfl rfl 167 (.tmp 7) (.tmp 37) rfl w.heap.size 0 (n8 p.2) (n8 (lastW (D.ca.take j) i s)) _ rfl rfl (HFF.out.heap HB.out id) (by rw [n8_len, n8_len, hsq.out.len, hpo.out.2.len]; omega) (by rw [n8_len, hpo.out.2.len]; exact isz_sector) (n8_one _) ?_; intro W3 hW3 hF3 hz3; rw [splice_all _ _ (by rw [n8_len, n8_len, hsq.out.len, hpo.out.2.len])] at hW3))
        go_roundw
        case rel => exact ⟨j + 1, by go_num, by omega, by rw [hlast.out, if_pos hpi]; exact hW3, (HF.out.then_ HFF.out (fun _ _ h => h)).then_ hF3 (fun k hk e => by omega)⟩
        case measure => simp [intOf]; omega
      · have d0 : ((p.1 : Int) == (i : Int)) = false := by simp; omega
        go_wp2_with (first
          | ((with_reducible refine at_dst (N := 31) rfl ?_); refine wpList_load_mid rfl 169 (.tmp 30) rfl c (j * 513) rfl (wrCell p) _ HR.out Tryz.underlying169 rfl (by rw [hwl.out]; exact isz_write) ?_; simp only [Act.put, List.setIfInBounds_toArray, List.set_cons_zero, List.set_cons_succ])
          | ((with_reducible refine at_dst (N := 9) rfl ?_); refine wpList_alloc rfl 169 513 alloc_write rfl ?_; intro Z W1 hZ hW hF hz; simp only [Act.put, List.setIfInBounds_toArray, List.set_cons_zero, List.set_cons_succ])
          | ((with_reducible refine at_store (p := 9) rfl ?_); refine wpList_put rfl rfl 169 (.tmp 9) (.tmp 31) rfl wr.heap.size 0 (wrCell p) Z _ rfl rfl hW (by rw [hZ, hwl.out]; omega) (by rw [hwl.out]; exact isz_write) (wrCell_one _) ?_; intro W2 hW2 hF2 hz2; rw [splice_all _ _ (by rw [hZ, hwl.out])] at hW2; have hc := cell_of_row W2 _ 0 _ _ _ hW2; have hc' : W2.cell? ⟨wr.heap.size, 0, none⟩ = some (.int .i64 (p.1 : Int)) := hc; clear hc; have HW2 := Lib.hid hW2; have HFF := Lib.hid (hF.then_ hF2 (fun k hk e => by omega)); clear hW2 hF hF2 hW))
        go_roundw
        case rel => exact ⟨j + 1, by go_num, by omega, by rw [hlast.out, if_neg hpi]; exact HFF.out.heap HB.out id, HF.out.then_ HFF.out (fun _ _ h => h)⟩
        case measure => simp [intOf]; omega
    · obtain rfl : j = D.ca.length := by omega
      go_wp2
      go_ret2
      refine ⟨w.heap.size, rfl, ?_, Nat.le_refl _, HF.out⟩
      have := HB.out
      rw [List.take_length] at this
      rw [Dk.get, hs8.out]
      exact this
end
end Go.Proofs.YtnbonhinpepgoaaGreat
end
section
set_option linter.unusedVariables false
namespace Go.Proofs.YtnbonhinpepgoaaGreat
open Go.RowKit
section
variable {P : Program} {ops : Array Oper} {Q : Exit → Act → World → Prop} {md : Region.Mode} {S : World → Prop} {k : Nat}
def wpAnyG (P : Program) (md : Region.Mode) (ops : Array Oper) (Q : Exit → Act → World → Prop) (S : World → Prop) (k : Nat) : Nat → Array Bool → Act → World → Prop
  | 0, listed, a, w => Region.ready md ops listed = [] ∧ Q .normal a w
  | fuel + 1, listed, a, w =>
    (Region.ready md ops listed = [] → Q .normal a w) ∧
    ∀ i ∈ Region.ready md ops listed, wpOp P ops Q i (fun a' w' => ((listed.setIfInBounds i true).getD k true = false → S w') ∧ wpAnyG P md ops Q S k fuel (listed.setIfInBounds i true) a' w') a w
theorem wpAny_of_G : ∀ (fuel : Nat) (listed : Array Bool) (a : Act) (w : World), wpAnyG P md ops Q S k fuel listed a w → wpAny P md ops Q fuel listed a w
  | 0, _, _, _, h => h
  | fuel + 1, _, _, _, h => ⟨h.1, fun i hi => wpOp_mono (fun a' w' h' => wpAny_of_G fuel _ a' w' h'.2) (h.2 i hi)⟩
theorem wpAnyG_first {i : Nat} {oi : Oper} {v : Value} (hi : ops[i]? = some oi) (hsel : ∀ (j : Nat) (o : Oper) cs b, ops[j]? = some o → o.op ≠ .select cs b)
    (hk : Region.waitsFor md ops k i = true) (hQ : ∀ c a w, Q (.panic c) (a.put oi.dst v) w → Q (.panic c) a w) :
    ∀ (fuel : Nat) (listed : Array Bool) (a : Act) (w : World),
      (∀ j oj, ops[j]? = some oj → j ≠ i → listed.getD j true = false → (∀ e ∈ oj.after, Region.binds md e = true → e.on ≠ i) → oi.apart ops oj = true) →
      i ∈ Region.ready md ops listed → listed.getD k true = false → k ≠ i → YieldsIf P ops S oi v a → S w →
      wpAnyG P md ops Q S k fuel (listed.setIfInBounds i true) (a.put oi.dst v) w → wpAnyG P md ops Q S k (fuel + 1) listed a w := by
  intro fuel
  induction fuel with
  | zero =>
    intro listed a w _ hr hkl hki hy hS H
    refine ⟨fun h => (by rw [h] at hr; cases hr), fun j hj => ?_⟩
    by_cases hji : j = i
    · subst hji; exact hy.wpOp hi hS ⟨fun _ => hS, H⟩
    · have := ready_mono hj hji
      rw [H.1] at this
      cases this
  | succ fuel ih =>
    intro listed a w hfree hr hkl hki hy hS H
    refine ⟨fun h => (by rw [h] at hr; cases hr), fun j hj => ?_⟩
    by_cases hji : j = i
    · subst hji; exact hy.wpOp hi hS ⟨fun _ => hS, H⟩
    · have h1 := H.2 j (ready_mono hj hji)
      obtain ⟨hjun, oj, hoj, hall⟩ := mem_ready.1 hj
      have h0 := (mem_ready.1 hr).1
      have hnot : ∀ e ∈ oj.after, Region.binds md e = true → e.on ≠ i := fun e he hb heq => by
        have h1 := hall e he hb
        rw [heq] at h1
        rcases Nat.lt_or_ge i listed.size with h' | h'
        · simp [h'] at h0 h1; rw [h0] at h1; cases h1
        · simp [Array.getElem?_eq_none h'] at h1
      have hjk : j ≠ k := fun e => by
        subst e
        obtain ⟨o', ho', e, he, hb, hon⟩ := Region.waitsFor_spec hk
        have : o' = oj := Option.some.inj (ho'.symm.trans hoj)
        subst this
        exact hnot e he hb hon
      have hkj : (listed.setIfInBounds j true).getD k true = false := by rw [getD_set_ne true hjk]; exact hkl
      have hkij : ((listed.setIfInBounds i true).setIfInBounds j true).getD k true = false := by rw [getD_set_ne true hjk, getD_set_ne true (Ne.symm hki)]; exact hkl
      have h2 := wpOp_putIf hoj (hfree j oj hoj hji hjun hnot) (fun cs b => hsel i oi cs b hi) (fun cs b => hsel j oj cs b hoj) hQ hy h1
      have hfree' : ∀ k ok, ops[k]? = some ok → k ≠ i → (listed.setIfInBounds j true).getD k true = false →
          (∀ e ∈ ok.after, Region.binds md e = true → e.on ≠ i) → oi.apart ops ok = true := fun k ok hk hki hun hno => by
        refine hfree k ok hk hki ?_ hno
        by_cases hjk : j = k
        · subst hjk; exact hjun
        · rw [getD_set_ne true hjk] at hun; exact hun
      refine wpOp_mono (fun a' w' h3 => ⟨fun _ => h3.2.1 hkij, ih (listed.setIfInBounds j true) a' w' hfree' (ready_mono hr (Ne.symm hji)) hkj hki h3.1 (h3.2.1 hkij) ?_⟩) h2
      rw [Array.setIfInBounds_comm _ _ hji]
      exact h3.2.2
theorem wpAnyG_take (i : Nat) (N : Option Tmp) {oi : Oper} (v : Value) {fuel : Nat} {listed : Array Bool} {a : Act} {w : World} (hi : ops[i]? = some oi) (hN : oi.dst = N)
    (hs : (Region.noSelect ops && Region.waitsFor md ops k i && Region.free md ops listed i && (Region.ready md ops listed).contains i && !(listed.getD k true) && decide (k ≠ i)) = true)
    (hQ : ∀ c a w, Q (.panic c) (a.put oi.dst v) w → Q (.panic c) a w) (hw : Region.wanted oi (yielded ops a.tmps) = true) (hy : ∀ w, S w → (execOp a.eval oi).run P w = .ok (.value v) w) (hS : S w)
    (h : wpAnyG P md ops Q S k fuel (listed.setIfInBounds i true) (a.put N v) w) : wpAnyG P md ops Q S k (fuel + 1) listed a w := by
  subst hN
  simp only [Bool.and_eq_true, Bool.not_eq_true', decide_eq_true_eq] at hs
  obtain ⟨⟨⟨⟨⟨h1, h2⟩, h3⟩, h4⟩, h5⟩, h6⟩ := hs
  exact wpAnyG_first hi (Region.noSelect_spec h1) h2 hQ fuel listed a w (Region.free_spec hi h3) (by simpa using h4) h5 h6 (.inl ⟨hw, hy⟩) hS h
theorem wpAnyG_one (i : Nat) {oi : Oper} {fuel : Nat} {listed : Array Bool} {a : Act} {w : World} (hi : ops[i]? = some oi) (hr : Region.ready md ops listed = [i])
    (h : ∀ K : Act → World → Prop, Hid (∀ a' w', ((listed.setIfInBounds i true).getD k true = false → S w') → wpAnyG P md ops Q S k fuel (listed.setIfInBounds i true) a' w' → K a' w') →
      if Region.wanted oi (yielded ops a.tmps) = true then Oper.wp P oi a w K Q else K (a.put oi.dst undef) w) : wpAnyG P md ops Q S k (fuel + 1) listed a w := by
  refine ⟨fun h0 => (by rw [hr] at h0; cases h0), fun j hj => ?_⟩
  rw [hr] at hj
  obtain rfl : j = i := by simpa using hj
  have := h _ (Lib.hid fun a' w' h1 h2 => (⟨h1, h2⟩ : ((listed.setIfInBounds j true).getD k true = false → S w') ∧ wpAnyG P md ops Q S k fuel (listed.setIfInBounds j true) a' w'))
  unfold wpOp
  simp only [hi]
  split
  · rename_i hw
    rw [if_pos hw] at this
    exact .inl this
  · rename_i hw
    rw [if_neg hw] at this
    exact this
theorem wpAnyG_done {listed : Array Bool} {a : Act} {w : World} (hr : Region.ready md ops listed = []) (h : Q .normal a w) : ∀ fuel, wpAnyG P md ops Q S k fuel listed a w
  | 0 => ⟨hr, h⟩
  | _ + 1 => ⟨fun _ => h, by rw [hr]; simp⟩
theorem wp_region_G (S : World → Prop) (k : Nat) {id : Nat} {a : Act} {w : World} (hm : P.follows .mixedOrders = true)
    (h : wpAnyG P .any ops Q S k ops.size (Array.replicate ops.size false) a w.drew) : (Code.region id ops true).wp P Q a w :=
  wp_region_any hm (wpAny_of_G _ _ _ _ h)
theorem step_run {K : Act → World → Prop} {E : Prop} {o : Oper} {a : Act} {W W' : World} (hgd : o.guard = none) (N : Option Tmp) (hN : o.dst = N) (v : Value) (hrun : (execOp a.eval o).run P W = .ok (.value v) W') (h : K (a.put N v) W') :
    if Region.wanted o (yielded ops a.tmps) = true then Oper.wp P o a W K Q else E := by
  subst hN
  rw [if_pos (by simp [Region.wanted, hgd])]
  unfold Oper.wp
  rw [hrun]
  exact h
end
end Go.Proofs.YtnbonhinpepgoaaGreat
end
section
set_option linter.unusedVariables false
namespace Go.Proofs.YtnbonhinpepgoaaGreat
open Go.RowKit
def DSt (F : Nat → Prop) (g : Nat) (D : Dk) (w : World) : Prop := ∃ gs cv, DRep g gs cv D w ∧ ∀ k, F k ↔ Foot g gs cv k
structure Mv (F F' : Nat → Prop) (w w' : World) : Prop where
  fr : Fr F w w'
  own : ∀ k, F' k → F k ∨ w.heap.size ≤ k
theorem Mv.refl (F : Nat → Prop) (w : World) : Mv F F w w := ⟨Fr.refl _ _, fun _ h => .inl h⟩
theorem Mv.trans {F F' F'' : Nat → Prop} {w w' w'' : World} (h : Mv F F' w w') (k : Mv F' F'' w' w'') : Mv F F'' w w'' :=
  ⟨h.fr.then_ k.fr fun j hj hF => (h.own j hF).elim id fun h2 => by omega, fun j hj => (k.own j hj).elim (h.own j) fun h2 => .inr (Nat.le_trans h.fr.size h2)⟩
theorem DSt.lt {F : Nat → Prop} {g : Nat} {D : Dk} {w : World} (h : DSt F g D w) {k : Nat} (hk : F k) : k < w.heap.size := by
  obtain ⟨gs, cv, hD, hF⟩ := h
  exact hD.lt ((hF k).1 hk)
theorem DSt.fr {F : Nat → Prop} {g : Nat} {D : Dk} {w w' : World} {M : Nat → Prop} (h : DSt F g D w) (hf : Fr M w w') (hM : ∀ k, F k → ¬ M k) : DSt F g D w' := by
  obtain ⟨gs, cv, hD, hF⟩ := h
  exact ⟨gs, cv, hD.fr hf fun k hk => hM k ((hF k).2 hk), hF⟩
theorem DSt.ok {F : Nat → Prop} {g : Nat} {D : Dk} {w : World} (h : DSt F g D w) : D.Ok := by
  obtain ⟨gs, cv, hD, hF⟩ := h
  exact hD.ok
section
variable {g gs : Nat} {cv : Value} {D : Dk} {w : World}
theorem stable_ok (h : DRep g gs cv D w) (i : Nat) (hi : i < D.st.length) :
    Calls Tryz.prog 50 #[.pointer (some ⟨g, 0, none⟩), .int .i64 i] w fun r w' => ∃ k, r = .returned (.tuple #[.slice (some ⟨k, 0, none⟩) 512 512, .int .i64 0]) ∧ w'.heap[k]? = some (.cells (n8 (D.st.getD i [])).toArray 167 (0, 0)) ∧ w.heap.size ≤ k ∧ Fr (fun _ => False) w w' := by
  have hlen := h.ok.hi
  obtain ⟨s, hs⟩ : ∃ s, D.st[i]? = some s := ⟨_, List.getElem?_eq_getElem hi⟩
  have hsec := Lib.hid (h.sec hs)
  have hsl := Lib.hid (h.ok.sec s (List.mem_of_getElem? hs))
  have c0 := h.c0
  have b0 : (0 : Int) ≤ (i : Int) ∧ (i : Int) < (D.st.length : Int) := ⟨by omega, by omega⟩
  have d1 : decide ((i : Int) < 0) = false := decide_eq_false (by omega)
  have d2 : decide ((i : Int) ≥ (D.st.length : Int)) = false := decide_eq_false (by omega)
  have hs8 := Lib.hid (show D.st.getD i [] = s by rw [List.getD_eq_getElem?_getD, hs]; rfl)
  clear hs h
  go_enter Tryz.func50, Tryz.ntmps50
  go_wp2_with (first
    | ((with_reducible refine at_dst (N := 26) rfl ?_); refine wpList_load_mid rfl 167 (.tmp 25) rfl gs (i * 512) rfl (n8 s) _ hsec.out Tryz.underlying167 rfl (by rw [n8_len, hsl.out.len]; exact isz_sector) ?_; simp only [Act.put, List.setIfInBounds_toArray, List.set_cons_zero, List.set_cons_succ])
    | ((with_reducible refine at_dst (N := 6) rfl ?_); refine wpList_alloc rfl 167 512 alloc_sector rfl ?_; intro Z W1 hZ hW hF hz; simp only [Act.put, List.setIfInBounds_toArray, List.set_cons_zero, List.set_cons_succ])
    | ((with_reducible refine at_store (p := 6) rfl ?_); refine wpList_put rfl rfl 167 (.tmp 6) (.tmp 26) rfl w.heap.size 0 (n8 s) Z _ rfl rfl hW (by rw [hZ, n8_len, hsl.out.len]; omega) (by rw [n8_len, hsl.out.len]; exact isz_sector) (n8_one _) ?_; intro W2 hW2 hF2 hz2; rw [splice_all _ _ (by rw [hZ, n8_len, hsl.out.len])] at hW2; have HF := Lib.hid (hF.then_ hF2 (fun k hk e => by omega)); have HW2 := Lib.hid hW2; clear hW2 hF hF2 hW))
  go_ret2
  exact ⟨w.heap.size, rfl, by rw [hs8.out]; exact HW2.out, Nat.le_refl _, HF.out⟩
theorem DRep.c4 (h : DRep g gs cv D w) : ∃ a : Int, w.cell? ⟨g, 4, none⟩ = some (.int .u64 a) := by
  obtain ⟨a, b, hb⟩ := h.blk
  exact ⟨a, cell_of_row w g 4 _ _ _ hb⟩
theorem DRep.c5 (h : DRep g gs cv D w) : ∃ a : Int, w.cell? ⟨g, 5, none⟩ = some (.int .u64 a) := by
  obtain ⟨a, b, hb⟩ := h.blk
  exact ⟨b, cell_of_row w g 5 _ _ _ hb⟩
theorem DRep.set (h : DRep g gs cv D w) (j : Nat) (x : Value) (D' : Dk) (hD : D'.st = D.st) (hca : D'.ca = D.ca) (hok : D'.Ok)
    (he : ∀ a b : Int, ∃ a' b' : Int, (#[Value.slice (some ⟨gs, 0, none⟩) D.st.length D.st.length, cv, bw D.down, .int .i64 D.armed, .int .u64 a, .int .u64 b] : Array Value).setIfInBounds j x = #[.slice (some ⟨gs, 0, none⟩) D.st.length D.st.length, cv, bw D'.down, .int .i64 D'.armed, .int .u64 a', .int .u64 b']) :
    DRep g gs cv D' (w.setCell ⟨g, j, none⟩ x) ∧ Fr (Foot g gs cv) w (w.setCell ⟨g, j, none⟩ x) := by
  obtain ⟨a, b, hb⟩ := h.blk
  obtain ⟨a', b', he'⟩ := he a b
  refine ⟨⟨⟨a', b', ?_⟩, ?_, ?_, h.ne, h.neg, h.nes, hok⟩, (Fr.refl _ _).setCell _ _ (fun _ => .inl rfl)⟩
  · rw [heap_setCell hb, he', hD]
  · rw [hD, Below.heap_setCell _ _ _ _ (fun e => h.ne e.symm)]
    exact h.sts
  · rw [hca]
    exact own_fr h.own (M := fun k => k = g) ((Fr.refl _ _).setCell _ _ (fun _ => rfl)) (fun k _ _ hk e => h.neg (e ▸ hk))
theorem DRep.set4 (h : DRep g gs cv D w) (y : Int) : DRep g gs cv D (w.setCell ⟨g, 4, none⟩ (.int .u64 y)) ∧ Fr (Foot g gs cv) w (w.setCell ⟨g, 4, none⟩ (.int .u64 y)) :=
  h.set 4 _ D rfl rfl h.ok fun a b => ⟨y, b, rfl⟩
theorem DRep.set5 (h : DRep g gs cv D w) (y : Int) : DRep g gs cv D (w.setCell ⟨g, 5, none⟩ (.int .u64 y)) ∧ Fr (Foot g gs cv) w (w.setCell ⟨g, 5, none⟩ (.int .u64 y)) :=
  h.set 5 _ D rfl rfl h.ok fun a b => ⟨a, y, rfl⟩
theorem DRep.set3 (h : DRep g gs cv D w) (x : Int) (h0 : -1 ≤ x) (h1 : x < 9223372036854775808) : DRep g gs cv { D with armed := x } (w.setCell ⟨g, 3, none⟩ (.int .i64 x)) ∧ Fr (Foot g gs cv) w (w.setCell ⟨g, 3, none⟩ (.int .i64 x)) :=
  h.set 3 _ { D with armed := x } rfl rfl ⟨h.ok.lo, h.ok.hi, h.ok.sec, h.ok.cac, h0, h1⟩ fun a b => ⟨a, b, rfl⟩
theorem DRep.set2 (h : DRep g gs cv D w) (x : Bool) : DRep g gs cv { D with down := x } (w.setCell ⟨g, 2, none⟩ (bw x)) ∧ Fr (Foot g gs cv) w (w.setCell ⟨g, 2, none⟩ (bw x)) :=
  h.set 2 _ { D with down := x } rfl rfl ⟨h.ok.lo, h.ok.hi, h.ok.sec, h.ok.cac, h.ok.a0, h.ok.a1⟩ fun a b => ⟨a, b, rfl⟩
theorem DRep.drew (h : DRep g gs cv D w) : DRep g gs cv D w.drew := h.fr (M := fun _ => False) (Fr.refl _ _).drew (fun _ _ => id)
end
end Go.Proofs.YtnbonhinpepgoaaGreat
end
section
set_option linter.unusedVariables false
namespace Go.Proofs.YtnbonhinpepgoaaGreat
open Go.RowKit
def BSl (w : World) (X : Option Addr) (c : Nat) (l : List Nat) : Prop := 0 < l.length → ∃ o, X = some ⟨c, o, none⟩ ∧ w.rangeAt c o (n8 l)
theorem addr_add (c o j : Nat) : (⟨c, o, none⟩ : Addr).add j = ⟨c, o + j, none⟩ := by unfold Addr.add; split <;> simp_all
def subX (X : Option Addr) (q cap : Nat) : Option Addr := if cap = q then X else X.map (·.add q)
section
variable {w : World} {X : Option Addr} {c : Nat} {l : List Nat}
theorem BSl.fr {M : Nat → Prop} {w' : World} (h : BSl w X c l) (hf : Fr M w w') (hM : ¬ M c) : BSl w' X c l := fun h0 => by
  obtain ⟨o, e, hr⟩ := h h0
  exact ⟨o, e, fun j v hv => hf.cell (hr j v hv) hM⟩
theorem BSl.has (h : BSl w X c l) : Has w X l := fun h0 => by
  obtain ⟨o, e, hr⟩ := h h0
  exact ⟨_, e, fun j v hv => by rw [addr_add]; exact hr j v hv⟩
theorem BSl.take (h : BSl w X c l) (q : Nat) : BSl w X c (l.take q) := fun h0 => by
  obtain ⟨o, e, hr⟩ := h (by simp at h0; omega)
  refine ⟨o, e, fun j v hv => hr j v ?_⟩
  rw [n8, List.map_take] at hv
  have := (List.getElem?_eq_some_iff.1 hv).1
  rwa [List.getElem?_take_of_lt (by simp at this; omega)] at hv
theorem BSl.drop (h : BSl w X c l) (q cap : Nat) (hc : l.length ≤ cap) : BSl w (subX X q cap) c (l.drop q) := fun h0 => by
  have hq : q < l.length := by simp at h0; omega
  obtain ⟨o, e, hr⟩ := h (by omega)
  refine ⟨o + q, ?_, fun j v hv => ?_⟩
  · rw [subX, if_neg (by omega), e, Option.map_some, addr_add]
  · rw [Nat.add_assoc]
    refine hr (q + j) v ?_
    rw [n8, List.map_drop, List.getElem?_drop] at hv
    exact hv
theorem BSl.cell (h : BSl w X c l) {j x : Nat} (hx : l[j]? = some x) : ∃ o, X = some ⟨c, o, none⟩ ∧ w.cell? ⟨c, o + j, none⟩ = some (.int .u8 x) := by
  have hj : j < l.length := (List.getElem?_eq_some_iff.1 hx).1
  obtain ⟨o, e, hr⟩ := h (by omega)
  exact ⟨o, e, hr j _ (by simp [n8, hx])⟩
end
structure RdR (g c : Nat) (b : List Nat) (br : Bool) (w : World) : Prop where
  blk : ∃ X cap, w.heap[g]? = some (.cells #[.slice X b.length cap, bw br] 262 (0, 0)) ∧ b.length ≤ cap ∧ cap ≤ maxLen ∧ BSl w X c b
  ne : 0 < b.length → g ≠ c
  lt : ∀ x ∈ b, x < 256
theorem RdR.fr {g c : Nat} {b : List Nat} {br : Bool} {w w' : World} {M : Nat → Prop} (h : RdR g c b br w) (hf : Fr M w w') (hg : ¬ M g) (hc : 0 < b.length → ¬ M c) : RdR g c b br w' := by
  obtain ⟨⟨X, cap, hb, h1, h2, h3⟩, hn, hl⟩ := h
  exact ⟨⟨X, cap, hf.heap hb hg, h1, h2, fun h0 => h3.fr hf (hc h0) h0⟩, hn, hl⟩
def beVal (l : List Nat) : Nat := l.foldl (fun n x => n * 256 + x) 0
def rdHead (b : List Nat) (br : Bool) (sg many : Nat) : Option Nat := if br then none else if b.length ≤ many then none else if b.headD 0 ≠ sg then none else some (beVal ((b.drop 1).take many))
theorem beVal_snoc (l : List Nat) (x : Nat) : beVal (l ++ [x]) = beVal l * 256 + x := by simp [beVal]
theorem beFold_lt : ∀ (l : List Nat) (a k : Nat), (∀ x ∈ l, x < 256) → a < 256 ^ k → l.foldl (fun n x => n * 256 + x) a < 256 ^ (k + l.length)
  | [], a, k, _, h => h
  | y :: l, a, k, hl, h => by
    have h2 := hl y (List.mem_cons_self ..)
    have := beFold_lt l (a * 256 + y) (k + 1) (fun x hx => hl x (List.mem_cons_of_mem _ hx)) (by rw [Nat.pow_succ]; omega)
    rw [List.foldl_cons, List.length_cons, show k + (l.length + 1) = k + 1 + l.length by omega]
    exact this
theorem beVal_lt (l : List Nat) (h : ∀ x ∈ l, x < 256) : beVal l < 256 ^ l.length := by
  have := beFold_lt l 0 0 h (by decide)
  rwa [Nat.zero_add] at this
theorem or_byte (a x : Nat) (ha : a < 72057594037927936) (hx : x < 256) : Go.bits .or .u64 ((a : Int) * 256) (x : Int) = ((a * 256 + x : Nat) : Int) := by
  have e : ((a : Int) * 256) = ((a * 256 : Nat) : Int) := by omega
  rw [e, Sha.or_nat rfl (show a * 256 < 2 ^ IntKind.u64.bits from (by omega : a * 256 < 18446744073709551616)) (show x < 2 ^ IntKind.u64.bits from (by omega : x < 18446744073709551616))]
  congr 1
  have := Nat.two_pow_add_eq_or_of_lt (i := 8) (b := x) (by omega) a
  rw [Nat.mul_comm a 256]
  exact this.symm
theorem run_from (X : Option Addr) (n cap q : Nat) (k : IntKind) (hq : q ≤ n) (W : World) : (Instr.sliceAt 42 (.slice X n cap) (some (.int k (q : Int))) none none).run Tryz.prog W = .ok (.slice (subX X q cap) (n - q) (cap - q)) W := by
  rw [run_sliceAt_slice W _ _ _ _ _ (by kernel_rfl), run_slice_l W _ X n cap (by kernel_rfl) k q (by omega) (by omega)]
  have hs : (sizeOf (Tryz.prog.elem 42)).run Tryz.prog W = .ok 1 W := by kernel_rfl
  rw [hs]
  simp [sliced, subX, Result.andThen]
theorem run_lh (X : Option Addr) (n cap q r : Nat) (k k' : IntKind) (hq : q ≤ r) (hr : r ≤ cap) (W : World) : (Instr.sliceAt 42 (.slice X n cap) (some (.int k (q : Int))) (some (.int k' (r : Int))) none).run Tryz.prog W = .ok (.slice (subX X q cap) (r - q) (cap - q)) W := by
  rw [run_sliceAt_slice W _ _ _ _ _ (by kernel_rfl), run_slice_lh W _ X n cap (by kernel_rfl) k k' q r (by omega) (by omega) (by omega)]
  have hs : (sizeOf (Tryz.prog.elem 42)).run Tryz.prog W = .ok 1 W := by kernel_rfl
  rw [hs]
  simp [sliced, subX, Result.andThen]
section
variable {P : Program} {o : Oper} {a : Act} {W : World}
theorem exec_sliceAt (t : TypeId) (x : Operand) (lo hi mx : Option Operand) (ho : o.op = .slice t x lo hi mx) (v : Value) (l h m : Option Value) (hx : a.eval x = v) (hl : lo.map a.eval = l) (hh : hi.map a.eval = h) (hm : mx.map a.eval = m) (v' : Value)
    (hrun : (Instr.sliceAt t v l h m).run P W = .ok v' W) : (execOp a.eval o).run P W = .ok (.value v') W := by
  unfold execOp
  rw [ho]
  show (do pure (Next.value (← Instr.sliceAt t (a.eval x) (lo.map a.eval) (hi.map a.eval) (mx.map a.eval))) : Sem Next).run _ _ = _
  rw [hx, hl, hh, hm, Sem.run_bind, hrun]
  rfl
end
end Go.Proofs.YtnbonhinpepgoaaGreat
end
section
set_option linter.unusedVariables false
namespace Go.Proofs.YtnbonhinpepgoaaGreat
open Go.RowKit
theorem info_write : (Tryz.prog.info? 169).map (fun i => ((i.zero.map (·.cells.size)), i.size, i.bytes)) = some (some 513, 513, 520) := by kernel_rfl
theorem info_write' : ∃ z, (Tryz.prog.info? 169).map (fun i => (i.zero, i.size, i.bytes)) = some (some z, 513, 520) ∧ z.cells.size = 513 := by
  have h := info_write
  generalize Tryz.prog.info? 169 = o at h
  cases o with
  | none => cases h
  | some i =>
    simp only [Option.map_some, Option.some.injEq, Prod.mk.injEq] at h
    obtain ⟨h1, h2, h3⟩ := h
    cases hz : i.zero with
    | none => rw [hz] at h1; cases h1
    | some z =>
      rw [hz] at h1
      simp only [Option.map_some, Option.some.injEq] at h1
      exact ⟨z, by rw [Option.map_some, hz, h2, h3], h1⟩
def Dk.write (D : Dk) (i : Nat) (b : List Nat) : Int × Dk :=
  if D.armed = 0 then (51, { D with down := true }) else (0, { D with ca := D.ca ++ [(i, b)], armed := if 0 < D.armed then D.armed - 1 else D.armed })
section
variable {g gs : Nat} {cv : Value} {D : Dk} {w : World}
theorem write_down (h : DRep g gs cv D w) (i : Nat) (hi : i < D.st.length) (hd : D.down = false) (ha : D.armed = 0) (X : Option Addr) (cap : Nat) :
    Calls Tryz.prog 148 #[.pointer (some ⟨g, 0, none⟩), .int .i64 i, .slice X 512 cap] w fun r w' => r = .returned (.int .i64 51) ∧ DRep g gs cv { D with down := true } w' ∧ Fr (Foot g gs cv) w w' := by
  have hlen := h.ok.hi
  have hm := may_any h i (by omega) (by omega)
  rw [show D.may i = 0 by unfold Dk.may; rw [hd, if_neg (by simp), if_neg (by omega)]] at hm
  have hst := bool_store ⟨g, 2, none⟩ true _ w h.c2 (h.z 2)
  have hres : DRep g gs cv { D with down := true } (w.drew.setCell ⟨g, 2, none⟩ (bw true)) ∧ Fr (Foot g gs cv) w (w.drew.setCell ⟨g, 2, none⟩ (bw true)) := by
    have := h.drew.set2 true
    exact ⟨this.1, ((Fr.refl _ _).drew).trans this.2⟩
  have c3 := h.c3
  rw [ha] at c3
  have HR := Lib.hid hres
  clear h hres ha
  go_enter Tryz.func148, Tryz.ntmps148
  go_wp2_with (first
    | (go_at_call 145; refine hm.mono ?_; rintro e w' ⟨rfl, rfl⟩)
    | (go_at_call 89; refine hst.mono ?_; rintro e w' ⟨rfl, rfl⟩; generalize w.drew.setCell ⟨g, 2, none⟩ (bw true) = W at HR ⊢))
  go_ret
  exact ⟨rfl, HR.out⟩
theorem fr_set (w : World) (g j : Nat) (v : Value) : Fr (fun k => k = g) w (w.setCell ⟨g, j, none⟩ v) := (Fr.refl _ _).setCell _ _ (fun _ => rfl)
theorem build_write (i : Nat) (b : List Nat) (hb : IsSec b) (w : World) : (Instr.build 169 #[(0, .int .i64 (i : Int)), (1, .agg (n8 b).toArray)]).run Tryz.prog w = .ok (.agg (wrCell (i, b)).toArray) w :=
  run_build2 (P := Tryz.prog) 169 _ Tryz.underlying169 (.int .i64 0 :: List.replicate 512 (.int .u8 0)) (fun w => by kernel_rfl) 1 512 (fun w => by kernel_rfl) (by rw [List.length_cons, List.length_replicate]) _ _ [.int .i64 (i : Int)] (n8 b) rfl rfl rfl (by rw [n8_len, hb.len]) w
theorem slice_write (v : Nat × List Nat) (hb : IsSec v.2) (w : World) : (Instr.buildSlice 135 1 #[(0, .agg (wrCell v).toArray)]).run Tryz.prog w = .ok (.slice (some ⟨w.heap.size, 0, none⟩) 1 1) (w.alloc (.cells (wrCell v).toArray 169)) :=
  run_buildSlice1 (P := Tryz.prog) 135 169 Tryz.underlying135 513 (fun w => by kernel_rfl) (.agg (.int .i64 0 :: List.replicate 512 (.int .u8 0)).toArray) (fun w => by kernel_rfl) (by rw [Value.cells, List.size_toArray, List.length_cons, List.length_replicate]) (by omega) (by omega) _ (wrCell v) rfl (by rw [wrCell, List.length_cons, n8_len, hb.len]) w
theorem DRep.more (h : DRep g gs cv D w) {W : World} {cv' : Value} {i : Nat} {b : List Nat} (hi : i < D.st.length) (hb : IsSec b) (hown : W.ownsRow 0 169 513 cv' (D.ca.length + 1) (wrCells D.ca ++ wrCell (i, b)))
    (hf : Fr (fun k => cv.ownBlock = some k) w W) (hl : cv'.ownBlock = cv.ownBlock ∨ ∃ k, cv'.ownBlock = some k ∧ w.heap.size ≤ k) :
    DRep g gs cv' { D with ca := D.ca ++ [(i, b)] } (W.setCell ⟨g, 1, none⟩ cv') ∧ Fr (Foot g gs cv) w (W.setCell ⟨g, 1, none⟩ cv') := by
  obtain ⟨a, c, hbl⟩ := h.blk
  have hg := block_lt hbl
  have hgs := block_lt h.sts
  have hne : cv'.ownBlock ≠ some g := by
    rcases hl with hl | ⟨k, hk, hk2⟩
    · rw [hl]; exact h.neg
    · rw [hk]; intro e; injection e with e; omega
  have hnes : cv'.ownBlock ≠ some gs := by
    rcases hl with hl | ⟨k, hk, hk2⟩
    · rw [hl]; exact h.nes
    · rw [hk]; intro e; injection e with e; omega
  refine ⟨⟨⟨a, c, ?_⟩, ?_, ?_, h.ne, hne, hnes, ⟨h.ok.lo, h.ok.hi, h.ok.sec, ?_, h.ok.a0, h.ok.a1⟩⟩, ?_⟩
  · rw [heap_setCell (hf.heap hbl h.neg)]
    rfl
  · rw [Below.heap_setCell _ _ _ _ (fun e => h.ne e.symm)]
    exact hf.heap h.sts h.nes
  · refine own_fr (M := fun k => k = g) ?_ ((Fr.refl _ _).setCell _ _ (fun _ => rfl)) (fun k _ _ hk e => hne (e ▸ hk))
    show W.ownsRow 0 _ 513 cv' (D.ca ++ [(i, b)]).length (wrCells (D.ca ++ [(i, b)]))
    rw [List.length_append, List.length_singleton, show wrCells (D.ca ++ [(i, b)]) = wrCells D.ca ++ wrCell (i, b) by simp [wrCells]]
    exact hown
  · intro p hp
    rcases List.mem_append.1 hp with hp | hp
    · exact h.ok.cac p hp
    · obtain rfl := List.mem_singleton.1 hp
      exact ⟨hi, hb⟩
  · exact (hf.mono fun k _ hk => Or.inr (.inr hk)).setCell _ _ fun _ => .inl rfl
set_option maxHeartbeats 1000000 in
set_option maxRecDepth 10000 in
theorem write_tail (h : DRep g gs cv D w) (i : Nat) (hi : i < D.st.length) (b : List Nat) (hb : IsSec b) (sb so cap : Nat) (hs : ∀ W, Fr (Foot g gs cv) w W → W.rangeAt sb so (n8 b)) (hmany : D.ca.length < 1000000)
    (hd : D.down = false) (ha : ¬ D.armed = 0) :
    Calls Tryz.prog 148 #[.pointer (some ⟨g, 0, none⟩), .int .i64 i, .slice (some ⟨sb, so, none⟩) 512 cap] w fun r w' => r = .returned (.int .i64 0) ∧ ∃ cv', DRep g gs cv' (D.write i b).2 w' ∧ Fr (Foot g gs cv) w w' ∧ (cv'.ownBlock = cv.ownBlock ∨ ∃ k, cv'.ownBlock = some k ∧ w.heap.size ≤ k) := by
  have hlen := h.ok.hi
  have hm := may_any h i (by omega) (by omega)
  rw [show D.may i = 0 by unfold Dk.may; rw [hd, if_neg (by simp), if_neg (by omega)]] at hm
  have c3 := h.c3
  have z3 := h.z 3
  obtain ⟨z, hinfo, hz⟩ := info_write'
  have HI := Lib.hid hinfo
  have HZ := Lib.hid hz
  have a0 := h.ok.a0
  have a1 : D.armed ≤ 9223372036854775807 := by have := h.ok.a1; omega
  obtain ⟨ar, har⟩ : ∃ ar, D.armed = ar := ⟨_, rfl⟩
  rw [har] at c3 a0 a1 ha
  have hres : Hid (∀ cv' W', DRep g gs cv' { D with ca := D.ca ++ [(i, b)], armed := if 0 < ar then ar - 1 else ar } W' → DRep g gs cv' (D.write i b).2 W') := show ∀ _ _, _ → _ from fun cv' W' h' => by
    unfold Dk.write
    rw [har, if_neg ha]
    exact h'
  have hu := Tryz.underlying167
  have hii : (Tryz.prog.info? 167).map (·.size) = some (n8 b).length := by rw [n8_len, hb.len]; exact isz_sector
  have hl8 : (n8 b).length = 512 := by rw [n8_len, hb.len]
  have h18 := n8_one b
  have d0 : (ar == 0) = false := by simp [ha]
  have hsap : ∀ W, (Instr.arrayAt 167 (.slice (some ⟨sb, so, none⟩) 512 cap)).run Tryz.prog W = .ok (.pointer (some ⟨sb, so, none⟩)) W := fun W => by kernel_rfl
  by_cases hpos : 0 < ar
  · have hset := h.set3 (ar - 1) (by omega) (by omega)
    obtain ⟨a, c4⟩ := hset.1.c4
    have hadd := u64_add ⟨g, 4, none⟩ a _ c4 (hset.1.z 4)
    have d1 : decide (ar > 0) = true := decide_eq_true hpos
    have hres2 : Hid (∀ y W, W = (w.setCell ⟨g, 3, none⟩ (.int .i64 (ar - 1))).setCell ⟨g, 4, none⟩ (.int .u64 y) → DRep g gs cv { D with armed := if 0 < ar then ar - 1 else ar } W ∧ Fr (fun k => k = g) w W) := show ∀ y W, W = _ → _ from fun y W e => by
      subst e
      rw [if_pos hpos]
      exact ⟨(hset.1.set4 y).1, (fr_set w g 3 _).trans (fr_set _ g 4 _)⟩
    have HS := Lib.hid hs
    have HD := Lib.hid h
    clear h hs hset c4
    go_enter Tryz.func148, Tryz.ntmps148
    go_wp2_with (first
      | (go_at_call 145; refine hm.mono ?_; rintro e w' ⟨rfl, rfl⟩)
      | (go_at_call 202; refine hadd.mono ?_; rintro e W ⟨y, rfl, hW⟩; have hDW := hres2.out y W hW; clear hW hres2 hadd c3 z3))
    have hc := hDW.1.c1
    have HC := Lib.hid (show ∀ n, (W.drewN n).rangeAt sb so (n8 b) from fun n j v hv => HS.out W (hDW.2.mono fun _ _ h => .inl h) j v hv)
    have HDW := Lib.hid hDW
    clear hDW
    have hbw := Lib.hid (fun W => build_write i b hb W)
    have hsw := Lib.hid (fun W => slice_write (i, b) hb W)
    refine wp_region_G (fun w' => w'.cell? ⟨g, 1, none⟩ = some cv ∧ w'.rangeAt sb so (n8 b)) 14 (by kernel_rfl) ?_
    have HS0 := Lib.hid (show W.drew.cell? ⟨g, 1, none⟩ = some cv ∧ W.drew.rangeAt sb so (n8 b) from ⟨hc, fun j v hv => HC.out 0 j v hv⟩)
    refine wpAnyG_take 0 (some 46) (.pointer (some ⟨g, 0, none⟩)) rfl rfl (by kernel_rfl) (fun _ _ _ h => h) (by rfl) (fun w hSw => by (try dsimp only at hSw); go_simp) HS0.out ?_
    simp only [Act.put, List.setIfInBounds_toArray, List.set_cons_zero, List.set_cons_succ]
    refine wpAnyG_take 1 (some 47) (.pointer (some ⟨g, 0, none⟩)) rfl rfl (by kernel_rfl) (fun _ _ _ h => h) (by rfl) (fun w hSw => by (try dsimp only at hSw); go_simp) HS0.out ?_
    simp only [Act.put, List.setIfInBounds_toArray, List.set_cons_zero, List.set_cons_succ]
    refine wpAnyG_take 2 (some 48) (.pointer (some ⟨g, 0, none⟩)) rfl rfl (by kernel_rfl) (fun _ _ _ h => h) (by rfl) (fun w hSw => by (try dsimp only at hSw); go_simp) HS0.out ?_
    simp only [Act.put, List.setIfInBounds_toArray, List.set_cons_zero, List.set_cons_succ]
    refine wpAnyG_take 3 (some 49) (.pointer (some ⟨g, 1, none⟩)) rfl rfl (by kernel_rfl) (fun _ _ _ h => h) (by rfl) (fun w hSw => by (try dsimp only at hSw); go_simp) HS0.out ?_
    simp only [Act.put, List.setIfInBounds_toArray, List.set_cons_zero, List.set_cons_succ]
    refine wpAnyG_take 4 (some 50) (cv) rfl rfl (by kernel_rfl) (fun _ _ _ h => h) (by rfl) (fun w hSw => by (try dsimp only at hSw); go_simp) HS0.out ?_
    simp only [Act.put, List.setIfInBounds_toArray, List.set_cons_zero, List.set_cons_succ]
    refine wpAnyG_take 5 (some 51) (.int .i64 (i : Int)) rfl rfl (by kernel_rfl) (fun _ _ _ h => h) (by rfl) (fun w hSw => by (try dsimp only at hSw); go_simp) HS0.out ?_
    simp only [Act.put, List.setIfInBounds_toArray, List.set_cons_zero, List.set_cons_succ]
    refine wpAnyG_take 6 (some 52) (.slice (some ⟨sb, so, none⟩) 512 cap) rfl rfl (by kernel_rfl) (fun _ _ _ h => h) (by rfl) (fun w hSw => by (try dsimp only at hSw); go_simp) HS0.out ?_
    simp only [Act.put, List.setIfInBounds_toArray, List.set_cons_zero, List.set_cons_succ]
    refine wpAnyG_take 7 (some 53) (.pointer (some ⟨sb, so, none⟩)) rfl rfl (by kernel_rfl) (fun _ _ _ h => h) (by rfl) (fun w _ => exec_arrayAt 167 (.tmp 52) rfl (.slice (some ⟨sb, so, none⟩) 512 cap) rfl _ (hsap w)) HS0.out ?_
    simp only [Act.put, List.setIfInBounds_toArray, List.set_cons_zero, List.set_cons_succ]
    refine wpAnyG_take 8 (some 54) (.agg (n8 b).toArray) rfl rfl (by kernel_rfl) (fun _ _ _ h => h) (by rfl) (fun w hw => exec_load_mid 167 (.tmp 53) rfl sb so rfl (n8 b) (.array 512 5) hw.2 hu rfl hii) HS0.out ?_
    simp only [Act.put, List.setIfInBounds_toArray, List.set_cons_zero, List.set_cons_succ]
    refine wpAnyG_take 9 (some 55) (.agg (wrCell (i, b)).toArray) rfl rfl (by kernel_rfl) (fun _ _ _ h => h) (by rfl) (fun w _ => exec_build2 169 (.tmp 51) (.tmp 54) rfl (.int .i64 (i : Int)) (.agg (n8 b).toArray) rfl rfl _ (hbw.out w)) HS0.out ?_
    simp only [Act.put, List.setIfInBounds_toArray, List.set_cons_zero, List.set_cons_succ]
    refine wpAnyG_one 10 rfl (by kernel_rfl) (fun K hK => ?_)
    refine step_slice1 rfl (some 56) rfl 135 (.tmp 55) rfl _ rfl _ _ hsw.out ?_
    have hF1 : Fr (fun _ => False) W (W.drew.alloc (.cells (wrCell (i, b)).toArray 169)) := ((Fr.refl _ _).drew).alloc _
    have HS1 := Lib.hid (show (W.drew.alloc (.cells (wrCell (i, b)).toArray 169)).cell? ⟨g, 1, none⟩ = some cv ∧ (W.drew.alloc (.cells (wrCell (i, b)).toArray 169)).rangeAt sb so (n8 b) from ⟨hF1.cell hc id, fun j v hv => hF1.cell (HC.out 0 j v hv) id⟩)
    refine hK.out _ _ (fun _ => HS1.out) ?_
    clear hK K
    simp only [Act.put, List.setIfInBounds_toArray, List.set_cons_zero, List.set_cons_succ]
    refine wpAnyG_one 11 rfl (by kernel_rfl) (fun K hK => ?_)
    have hO : (W.drew.alloc (.cells (wrCell (i, b)).toArray 169)).ownsRow 0 169 513 cv D.ca.length (wrCells D.ca) := own_fr HDW.out.1.own hF1 (fun _ _ _ _ => id)
    refine step_at (some 57) rfl hO 1 (wrCell (i, b)) Tryz.underlying135 HI.out HZ.out (by omega) (by rw [wrCell, List.length_cons, n8_len, hb.len]) (wrCell_one _) (by omega) (by omega) (Nat.zero_le _) rfl rfl rfl rfl (news_alloc _ _ _) (fun v' w2 hO2 hF2 hL2 => ?_)
    obtain ⟨X', cap', hv'⟩ := own_form hO2
    subst hv'
    have hne : ¬ cv.ownBlock = some g := HDW.out.1.neg
    have hc2 : w2.cell? ⟨g, 1, none⟩ = some cv := hF2.cell HS1.out.1 hne
    have HF2 := Lib.hid (show Fr (fun k => cv.ownBlock = some k) W w2 from (hF1.mono (fun _ _ h => h.elim)).then_ hF2 (fun _ _ h => h))
    have hz2 : w2.frozen? ⟨g, 1, none⟩ = false := by
      obtain ⟨a', b', hbk⟩ := HDW.out.1.blk
      simp [World.frozen?, HF2.out.heap hbk hne]
    have HS2 := Lib.hid (show w2.cell? ⟨g, 1, none⟩ = some cv ∧ w2.rangeAt sb so (n8 b) from ⟨hc2, HS.out w2 ((HDW.out.2.mono fun _ _ h => .inl h).then_ HF2.out fun _ _ h => .inr (.inr h))⟩)
    refine hK.out _ _ (fun _ => HS2.out) ?_
    clear hK K
    simp only [Act.put, List.setIfInBounds_toArray, List.set_cons_zero, List.set_cons_succ]
    refine wpAnyG_one 12 rfl (by kernel_rfl) (fun K hK => ?_)
    refine step_run (W' := w2) rfl (some 58) rfl (.pointer (some ⟨g, 0, none⟩)) (by go_simp) ?_
    refine hK.out _ _ (fun _ => HS2.out) ?_
    clear hK K
    simp only [Act.put, List.setIfInBounds_toArray, List.set_cons_zero, List.set_cons_succ]
    refine wpAnyG_take 13 (some 59) (.pointer (some ⟨g, 1, none⟩)) rfl rfl (by kernel_rfl) (fun _ _ _ h => h) (by rfl) (fun w hSw => by (try dsimp only at hSw); go_simp) HS2.out ?_
    simp only [Act.put, List.setIfInBounds_toArray, List.set_cons_zero, List.set_cons_succ]
    refine wpAnyG_one 14 rfl (by kernel_rfl) (fun K hK => ?_)
    rw [if_pos (by rfl)]
    go_simp
    refine hK.out _ _ (fun h => by cases h) ?_
    refine wpAnyG_done (by kernel_rfl) ?_ _
    have hfin := HDW.out.1.more (W := w2) hi hb hO2 HF2.out (hL2.imp id fun h => ⟨_, h, by simp⟩)
    have HFIN := Lib.hid (show DRep g gs (.slice X' (D.ca.length + 1) cap') (D.write i b).2 (w2.setCell ⟨g, 1, none⟩ (.slice X' (D.ca.length + 1) cap')) ∧ Fr (Foot g gs cv) w (w2.setCell ⟨g, 1, none⟩ (.slice X' (D.ca.length + 1) cap')) from ⟨hres.out _ _ hfin.1, (HDW.out.2.mono fun _ _ h => .inl h).trans hfin.2⟩)
    have HL := Lib.hid (show (Value.slice X' (D.ca.length + 1) cap').ownBlock = cv.ownBlock ∨ ∃ k, (Value.slice X' (D.ca.length + 1) cap').ownBlock = some k ∧ w.heap.size ≤ k from hL2.imp id fun h => ⟨_, h, by have := HDW.out.2.size; simp; omega⟩)
    clear hfin hL2
    go_wp2
    go_ret
    exact ⟨rfl, _, HFIN.out.1, HFIN.out.2, HL.out⟩
  · obtain ⟨a, c4⟩ := h.c4
    have hadd := u64_add ⟨g, 4, none⟩ a _ c4 (h.z 4)
    have d1 : decide (ar > 0) = false := decide_eq_false hpos
    have hres2 : Hid (∀ y W, W = w.setCell ⟨g, 4, none⟩ (.int .u64 y) → DRep g gs cv { D with armed := if 0 < ar then ar - 1 else ar } W ∧ Fr (fun k => k = g) w W) := show ∀ y W, W = _ → _ from fun y W e => by
      subst e
      rw [if_neg hpos, ← har]
      exact ⟨(h.set4 y).1, fr_set _ g 4 _⟩
    have HS := Lib.hid hs
    have HD := Lib.hid h
    clear h hs c4
    go_enter Tryz.func148, Tryz.ntmps148
    go_wp2_with (first
      | (go_at_call 145; refine hm.mono ?_; rintro e w' ⟨rfl, rfl⟩)
      | (go_at_call 202; refine hadd.mono ?_; rintro e W ⟨y, rfl, hW⟩; have hDW := hres2.out y W hW; clear hW hres2 hadd c3 z3))
    have hc := hDW.1.c1
    have HC := Lib.hid (show ∀ n, (W.drewN n).rangeAt sb so (n8 b) from fun n j v hv => HS.out W (hDW.2.mono fun _ _ h => .inl h) j v hv)
    have HDW := Lib.hid hDW
    clear hDW
    have hbw := Lib.hid (fun W => build_write i b hb W)
    have hsw := Lib.hid (fun W => slice_write (i, b) hb W)
    refine wp_region_G (fun w' => w'.cell? ⟨g, 1, none⟩ = some cv ∧ w'.rangeAt sb so (n8 b)) 14 (by kernel_rfl) ?_
    have HS0 := Lib.hid (show W.drew.cell? ⟨g, 1, none⟩ = some cv ∧ W.drew.rangeAt sb so (n8 b) from ⟨hc, fun j v hv => HC.out 0 j v hv⟩)
    refine wpAnyG_take 0 (some 46) (.pointer (some ⟨g, 0, none⟩)) rfl rfl (by kernel_rfl) (fun _ _ _ h => h) (by rfl) (fun w hSw => by (try dsimp only at hSw); go_simp) HS0.out ?_
    simp only [Act.put, List.setIfInBounds_toArray, List.set_cons_zero, List.set_cons_succ]
    refine wpAnyG_take 1 (some 47) (.pointer (some ⟨g, 0, none⟩)) rfl rfl (by kernel_rfl) (fun _ _ _ h => h) (by rfl) (fun w hSw => by (try dsimp only at hSw); go_simp) HS0.out ?_
    simp only [Act.put, List.setIfInBounds_toArray, List.set_cons_zero, List.set_cons_succ]
    refine wpAnyG_take 2 (some 48) (.pointer (some ⟨g, 0, none⟩)) rfl rfl (by kernel_rfl) (fun _ _ _ h => h) (by rfl) (fun w hSw => by (try dsimp only at hSw); go_simp) HS0.out ?_
    simp only [Act.put, List.setIfInBounds_toArray, List.set_cons_zero, List.set_cons_succ]
    refine wpAnyG_take 3 (some 49) (.pointer (some ⟨g, 1, none⟩)) rfl rfl (by kernel_rfl) (fun _ _ _ h => h) (by rfl) (fun w hSw => by (try dsimp only at hSw); go_simp) HS0.out ?_
    simp only [Act.put, List.setIfInBounds_toArray, List.set_cons_zero, List.set_cons_succ]
    refine wpAnyG_take 4 (some 50) (cv) rfl rfl (by kernel_rfl) (fun _ _ _ h => h) (by rfl) (fun w hSw => by (try dsimp only at hSw); go_simp) HS0.out ?_
    simp only [Act.put, List.setIfInBounds_toArray, List.set_cons_zero, List.set_cons_succ]
    refine wpAnyG_take 5 (some 51) (.int .i64 (i : Int)) rfl rfl (by kernel_rfl) (fun _ _ _ h => h) (by rfl) (fun w hSw => by (try dsimp only at hSw); go_simp) HS0.out ?_
    simp only [Act.put, List.setIfInBounds_toArray, List.set_cons_zero, List.set_cons_succ]
    refine wpAnyG_take 6 (some 52) (.slice (some ⟨sb, so, none⟩) 512 cap) rfl rfl (by kernel_rfl) (fun _ _ _ h => h) (by rfl) (fun w hSw => by (try dsimp only at hSw); go_simp) HS0.out ?_
    simp only [Act.put, List.setIfInBounds_toArray, List.set_cons_zero, List.set_cons_succ]
    refine wpAnyG_take 7 (some 53) (.pointer (some ⟨sb, so, none⟩)) rfl rfl (by kernel_rfl) (fun _ _ _ h => h) (by rfl) (fun w _ => exec_arrayAt 167 (.tmp 52) rfl (.slice (some ⟨sb, so, none⟩) 512 cap) rfl _ (hsap w)) HS0.out ?_
    simp only [Act.put, List.setIfInBounds_toArray, List.set_cons_zero, List.set_cons_succ]
    refine wpAnyG_take 8 (some 54) (.agg (n8 b).toArray) rfl rfl (by kernel_rfl) (fun _ _ _ h => h) (by rfl) (fun w hw => exec_load_mid 167 (.tmp 53) rfl sb so rfl (n8 b) (.array 512 5) hw.2 hu rfl hii) HS0.out ?_
    simp only [Act.put, List.setIfInBounds_toArray, List.set_cons_zero, List.set_cons_succ]
    refine wpAnyG_take 9 (some 55) (.agg (wrCell (i, b)).toArray) rfl rfl (by kernel_rfl) (fun _ _ _ h => h) (by rfl) (fun w _ => exec_build2 169 (.tmp 51) (.tmp 54) rfl (.int .i64 (i : Int)) (.agg (n8 b).toArray) rfl rfl _ (hbw.out w)) HS0.out ?_
    simp only [Act.put, List.setIfInBounds_toArray, List.set_cons_zero, List.set_cons_succ]
    refine wpAnyG_one 10 rfl (by kernel_rfl) (fun K hK => ?_)
    refine step_slice1 rfl (some 56) rfl 135 (.tmp 55) rfl _ rfl _ _ hsw.out ?_
    have hF1 : Fr (fun _ => False) W (W.drew.alloc (.cells (wrCell (i, b)).toArray 169)) := ((Fr.refl _ _).drew).alloc _
    have HS1 := Lib.hid (show (W.drew.alloc (.cells (wrCell (i, b)).toArray 169)).cell? ⟨g, 1, none⟩ = some cv ∧ (W.drew.alloc (.cells (wrCell (i, b)).toArray 169)).rangeAt sb so (n8 b) from ⟨hF1.cell hc id, fun j v hv => hF1.cell (HC.out 0 j v hv) id⟩)
    refine hK.out _ _ (fun _ => HS1.out) ?_
    clear hK K
    simp only [Act.put, List.setIfInBounds_toArray, List.set_cons_zero, List.set_cons_succ]
    refine wpAnyG_one 11 rfl (by kernel_rfl) (fun K hK => ?_)
    have hO : (W.drew.alloc (.cells (wrCell (i, b)).toArray 169)).ownsRow 0 169 513 cv D.ca.length (wrCells D.ca) := own_fr HDW.out.1.own hF1 (fun _ _ _ _ => id)
    refine step_at (some 57) rfl hO 1 (wrCell (i, b)) Tryz.underlying135 HI.out HZ.out (by omega) (by rw [wrCell, List.length_cons, n8_len, hb.len]) (wrCell_one _) (by omega) (by omega) (Nat.zero_le _) rfl rfl rfl rfl (news_alloc _ _ _) (fun v' w2 hO2 hF2 hL2 => ?_)
    obtain ⟨X', cap', hv'⟩ := own_form hO2
    subst hv'
    have hne : ¬ cv.ownBlock = some g := HDW.out.1.neg
    have hc2 : w2.cell? ⟨g, 1, none⟩ = some cv := hF2.cell HS1.out.1 hne
    have HF2 := Lib.hid (show Fr (fun k => cv.ownBlock = some k) W w2 from (hF1.mono (fun _ _ h => h.elim)).then_ hF2 (fun _ _ h => h))
    have hz2 : w2.frozen? ⟨g, 1, none⟩ = false := by
      obtain ⟨a', b', hbk⟩ := HDW.out.1.blk
      simp [World.frozen?, HF2.out.heap hbk hne]
    have HS2 := Lib.hid (show w2.cell? ⟨g, 1, none⟩ = some cv ∧ w2.rangeAt sb so (n8 b) from ⟨hc2, HS.out w2 ((HDW.out.2.mono fun _ _ h => .inl h).then_ HF2.out fun _ _ h => .inr (.inr h))⟩)
    refine hK.out _ _ (fun _ => HS2.out) ?_
    clear hK K
    simp only [Act.put, List.setIfInBounds_toArray, List.set_cons_zero, List.set_cons_succ]
    refine wpAnyG_one 12 rfl (by kernel_rfl) (fun K hK => ?_)
    refine step_run (W' := w2) rfl (some 58) rfl (.pointer (some ⟨g, 0, none⟩)) (by go_simp) ?_
    refine hK.out _ _ (fun _ => HS2.out) ?_
    clear hK K
    simp only [Act.put, List.setIfInBounds_toArray, List.set_cons_zero, List.set_cons_succ]
    refine wpAnyG_take 13 (some 59) (.pointer (some ⟨g, 1, none⟩)) rfl rfl (by kernel_rfl) (fun _ _ _ h => h) (by rfl) (fun w hSw => by (try dsimp only at hSw); go_simp) HS2.out ?_
    simp only [Act.put, List.setIfInBounds_toArray, List.set_cons_zero, List.set_cons_succ]
    refine wpAnyG_one 14 rfl (by kernel_rfl) (fun K hK => ?_)
    rw [if_pos (by rfl)]
    go_simp
    refine hK.out _ _ (fun h => by cases h) ?_
    refine wpAnyG_done (by kernel_rfl) ?_ _
    have hfin := HDW.out.1.more (W := w2) hi hb hO2 HF2.out (hL2.imp id fun h => ⟨_, h, by simp⟩)
    have HFIN := Lib.hid (show DRep g gs (.slice X' (D.ca.length + 1) cap') (D.write i b).2 (w2.setCell ⟨g, 1, none⟩ (.slice X' (D.ca.length + 1) cap')) ∧ Fr (Foot g gs cv) w (w2.setCell ⟨g, 1, none⟩ (.slice X' (D.ca.length + 1) cap')) from ⟨hres.out _ _ hfin.1, (HDW.out.2.mono fun _ _ h => .inl h).trans hfin.2⟩)
    have HL := Lib.hid (show (Value.slice X' (D.ca.length + 1) cap').ownBlock = cv.ownBlock ∨ ∃ k, (Value.slice X' (D.ca.length + 1) cap').ownBlock = some k ∧ w.heap.size ≤ k from hL2.imp id fun h => ⟨_, h, by have := HDW.out.2.size; simp; omega⟩)
    clear hfin hL2
    go_wp2
    go_ret
    exact ⟨rfl, _, HFIN.out.1, HFIN.out.2, HL.out⟩
end
end Go.Proofs.YtnbonhinpepgoaaGreat
end
section
set_option linter.unusedVariables false
namespace Go.Proofs.YtnbonhinpepgoaaGreat
open Go.RowKit
def setS (st : List (List Nat)) (p : Nat × List Nat) : List (List Nat) := st.set p.1 p.2
def Dk.flush (D : Dk) : Dk := { D with st := D.ca.foldl setS D.st, ca := [] }
theorem setS_len (st : List (List Nat)) (p : Nat × List Nat) : (setS st p).length = st.length := List.length_set ..
theorem setS_all (l : List (Nat × List Nat)) : ∀ st : List (List Nat), (l.foldl setS st).length = st.length := by
  induction l with
  | nil => intro st; rfl
  | cons p l ih => intro st; rw [List.foldl_cons, ih, setS_len]
theorem setS_sec {l : List (Nat × List Nat)} : ∀ {st : List (List Nat)}, (∀ s ∈ st, IsSec s) → (∀ p ∈ l, IsSec p.2) → ∀ s ∈ l.foldl setS st, IsSec s := by
  induction l with
  | nil => intro st h _; exact h
  | cons p l ih =>
    intro st h hl
    rw [List.foldl_cons]
    refine ih ?_ (fun q hq => hl q (List.mem_cons_of_mem _ hq))
    intro s hs
    rcases List.mem_or_eq_of_mem_set hs with hs | rfl
    · exact h s hs
    · exact hl p (List.mem_cons_self ..)
theorem splice_sec : ∀ (st : List (List Nat)) (i : Nat) (b : List Nat), (∀ s ∈ st, s.length = 512) → b.length = 512 → i < st.length → splice (secCells st) (i * 512) (n8 b) = secCells (st.set i b)
  | [], i, b, _, _, h => by simp at h
  | s :: st, 0, b, hs, hb, _ => by
    have h1 := hs s (List.mem_cons_self ..)
    simp only [secCells, List.flatMap_cons, List.set_cons_zero, splice, Nat.zero_mul, List.take_zero, List.nil_append, Nat.zero_add, n8_len, hb]
    rw [List.drop_append_of_le_length (by rw [n8_len, h1]; omega), List.drop_eq_nil_of_le (by rw [n8_len, h1]; omega), List.nil_append]
  | s :: st, i + 1, b, hs, hb, h => by
    have h1 := hs s (List.mem_cons_self ..)
    have ih := splice_sec st i b (fun x hx => hs x (List.mem_cons_of_mem _ hx)) hb (by simpa using h)
    have e : (i + 1) * 512 = (n8 s).length + i * 512 := by rw [n8_len, h1]; omega
    show splice (n8 s ++ secCells st) _ _ = n8 s ++ secCells (st.set i b)
    rw [← ih, e]
    unfold splice
    rw [List.take_length_add_append, Nat.add_assoc, List.drop_length_add_append, List.append_assoc]
section
variable {g gs : Nat} {cv : Value} {D : Dk} {w : World}
theorem DRep.setSec (h : DRep g gs cv D w) {W : World} {i : Nat} {b : List Nat} (hi : i < D.st.length) (hb : IsSec b) (hf : Fr (fun k => k = gs) w W) (hW : W.heap[gs]? = some (.cells (splice (secCells D.st) (i * 512) (n8 b)).toArray 167 (0, 0))) :
    DRep g gs cv { D with st := setS D.st (i, b) } W := by
  obtain ⟨a, c, hbl⟩ := h.blk
  refine ⟨⟨a, c, ?_⟩, ?_, own_fr h.own hf (fun k _ _ hk e => h.nes (e ▸ hk)), h.ne, h.neg, h.nes, ⟨?_, ?_, ?_, ?_, h.ok.a0, h.ok.a1⟩⟩
  · simp only [setS_len]
    exact hf.heap hbl h.ne
  · rw [hW, splice_sec _ _ _ (fun s hs => (h.ok.sec s hs).len) hb.len hi]
    rfl
  · simp only [setS_len]; exact h.ok.lo
  · simp only [setS_len]; exact h.ok.hi
  · exact setS_sec (l := [(i, b)]) h.ok.sec (fun p hp => by obtain rfl := List.mem_singleton.1 hp; exact hb)
  · simp only [setS_len]; exact h.ok.cac
theorem DRep.clear (h : DRep g gs cv D w) : DRep g gs (.slice none 0 0) { D with ca := [] } (w.setCell ⟨g, 1, none⟩ (.slice none 0 0)) ∧ Fr (Foot g gs cv) w (w.setCell ⟨g, 1, none⟩ (.slice none 0 0)) := by
  obtain ⟨a, c, hbl⟩ := h.blk
  refine ⟨⟨⟨a, c, ?_⟩, ?_, World.ownsRow_nil _ _ _ _, h.ne, by simp [Value.ownBlock], by simp [Value.ownBlock], ⟨h.ok.lo, h.ok.hi, h.ok.sec, fun p hp => (by cases hp), h.ok.a0, h.ok.a1⟩⟩, (Fr.refl _ _).setCell _ _ (fun _ => .inl rfl)⟩
  · rw [heap_setCell hbl]; rfl
  · rw [Below.heap_setCell _ _ _ _ (fun e => h.ne e.symm)]
    exact h.sts
theorem arm_any (h : DRep g gs cv D w) (n m : Int) (h0 : -9223372036854775808 ≤ n) (h1 : n < 9223372036854775808) (hm : m = max n (-1)) :
    Calls Tryz.prog 17 #[.pointer (some ⟨g, 0, none⟩), .int .i64 n] w fun r w' => r = .returned (.tuple #[]) ∧ DRep g gs cv { D with armed := m } w' ∧ Fr (Foot g gs cv) w w' := by
  have hr := Lib.hid (h.set3 m (by omega) (by omega))
  have c3 := h.c3
  have z3 := h.z 3
  clear h
  by_cases hn : n < -1
  · obtain rfl : m = -1 := by omega
    clear hm
    have hmx : max n (-1) = -1 := by omega
    go_enter Tryz.func17, Tryz.ntmps17
    go_wp2
    go_end0
    exact ⟨rfl, hr.out⟩
  · have hmx : max n (-1) = n := by omega
    obtain rfl : m = n := by omega
    clear hm
    go_enter Tryz.func17, Tryz.ntmps17
    go_wp2
    go_end0
    exact ⟨rfl, hr.out⟩
theorem setS_drop (l : List (Nat × List Nat)) (st : List (List Nat)) (j : Nat) (p : Nat × List Nat) (h : l[j]? = some p) : (l.take (j + 1)).foldl setS st = setS ((l.take j).foldl setS st) p := by
  rw [List.take_add_one, h]
  simp
set_option maxRecDepth 10000 in
set_option maxHeartbeats 1000000 in
theorem flush_ok (h : DRep g gs cv D w) (hd : D.down = false) :
    Calls Tryz.prog 149 #[.pointer (some ⟨g, 0, none⟩)] w fun r w' => r = .returned (.int .i64 0) ∧ DRep g gs (.slice none 0 0) D.flush w' ∧ Fr (Foot g gs cv) w w' := by
  have hlen := h.ok.hi
  have hlo := h.ok.lo
  have hm := may_any h 0 (by omega) (by omega)
  rw [show D.may 0 = 0 by unfold Dk.may; rw [hd, if_neg (by simp), if_neg (by omega)]] at hm
  obtain ⟨X, cap, hcv⟩ := own_form h.own
  subst hcv
  have c1 := h.c1
  have hcl : D.ca.length ≤ 9223372036854775807 := by
    have h1 := h.own.2
    rcases h1 with ⟨_, h0⟩ | ⟨c, cap, cur, e1, _, _, hc, hm', _, _⟩
    · omega
    · unfold maxLen at hm'; omega
  have HH := Lib.hid h
  clear h
  go_enter Tryz.func149, Tryz.ntmps149
  go_wp2_with (go_at_call 145; refine hm.mono ?_; rintro e w' ⟨rfl, rfl⟩)
  go_loopw [16] (fun t wr => ∃ j : Nat, t = .int .i64 j ∧ j ≤ D.ca.length ∧ Hid (DRep g gs (.slice X D.ca.length cap) { D with st := (D.ca.take j).foldl setS D.st } wr) ∧ Hid (Fr (Foot g gs (.slice X D.ca.length cap)) w wr)) (fun t _ => D.ca.length - (intOf t).toNat)
  case atStart => exact ⟨0, rfl, Nat.zero_le _, HH, Lib.hid (Fr.refl _ _)⟩
  case round =>
    clear c1 hm
    obtain ⟨j, rfl, hj, HB, HF⟩ := hrel
    by_cases hlt : j < D.ca.length
    · obtain ⟨p, hp⟩ : ∃ p, D.ca[j]? = some p := ⟨_, List.getElem?_eq_getElem hlt⟩
      obtain ⟨c, cap', hX, hr⟩ := HB.out.wr hp
      simp only [Value.slice.injEq] at hX
      obtain ⟨rfl, -, rfl⟩ := hX
      have HR := Lib.hid hr
      have hpo := Lib.hid (HH.out.ok.cac p (List.mem_of_getElem? hp))
      have hwl := Lib.hid (show (wrCell p).length = 513 by rw [wrCell, List.length_cons, n8_len, hpo.out.2.len])
      have hlast := Lib.hid (setS_drop D.ca D.st j p hp)
      have c0 := HB.out.c0
      simp only [setS_all] at c0
      have b0 : (0 : Int) ≤ (p.1 : Int) ∧ (p.1 : Int) < (D.st.length : Int) := ⟨by omega, by have := hpo.out.1; omega⟩
      have hlt2 := HB.out.lt (k := g) (.inl rfl)
      clear hr hp
      go_wp2_with (first
        | ((with_reducible refine at_dst (N := 19) rfl ?_); refine wpList_load_mid rfl 169 (.tmp 18) rfl c (j * 513) rfl (wrCell p) _ HR.out Tryz.underlying169 rfl (by rw [hwl.out]; exact isz_write) ?_; simp only [Act.put, List.setIfInBounds_toArray, List.set_cons_zero, List.set_cons_succ])
        | ((with_reducible refine at_dst (N := 5) rfl ?_); refine wpList_alloc rfl 169 513 alloc_write rfl ?_; intro Z W1 hZ hW hF hz; simp only [Act.put, List.setIfInBounds_toArray, List.set_cons_zero, List.set_cons_succ])
        | ((with_reducible refine at_store (p := 5) rfl ?_); refine wpList_put rfl rfl 169 (.tmp 5) (.tmp 19) rfl wr.heap.size 0 (wrCell p) Z _ rfl rfl hW (by rw [hZ, hwl.out]; omega) (by rw [hwl.out]; exact isz_write) (wrCell_one _) ?_; intro W2 hW2 hF2 hz2; rw [splice_all _ _ (by rw [hZ, hwl.out])] at hW2; have hc := cell_of_row W2 _ 0 _ _ _ hW2; have hc' : W2.cell? ⟨wr.heap.size, 0, none⟩ = some (.int .i64 (p.1 : Int)) := hc; clear hc; have HW2 := Lib.hid hW2; have HFF := Lib.hid (hF.then_ hF2 (fun k hk e => by omega)); have c0' := HFF.out.cell c0 id; clear hW2 hF hF2 hW c0))
      have HD2 := Lib.hid (HB.out.fr HFF.out (fun _ _ => id))
      have HRT := Lib.hid (show ∀ n, (W2.drewN n).rangeAt wr.heap.size 1 (n8 p.2) from fun n j v hv => range_tail HW2.out j v hv)
      go_wp2
      refine wp_region_quiet_tail 9 (by kernel_rfl) (by kernel_rfl) ?_
      simp only [List.take_succ_cons, List.take_zero, List.drop_succ_cons, List.drop_zero]
      repeat (any_goals (first
        | ((with_reducible refine at_qdst (N := 27) rfl ?_); refine wpQuiet_load_mid rfl 167 (.tmp 26) rfl wr.heap.size 1 rfl (n8 p.2) _ (by rintro w' ⟨n, rfl⟩; exact HRT.out n) Tryz.underlying167 rfl (by rw [n8_len, hpo.out.2.len]; exact isz_sector) ?_; simp only [Act.put, List.setIfInBounds_toArray, List.set_cons_zero, List.set_cons_succ])
        | go_big_quiet_step (fail) | quiet_step (fail)))
      refine wpQuiet_nil ?_
      rintro w' ⟨nq, rfl⟩
      have hb3 : (W2.drewN nq).heap[gs]? = some (.cells (secCells ((D.ca.take j).foldl setS D.st)).toArray 167 (0, 0)) := HD2.out.sts
      have hfit : p.1 * 512 + (n8 p.2).length ≤ (secCells ((D.ca.take j).foldl setS D.st)).length := by
        rw [secCells, flat_len 512 _ _ (fun s hs => by rw [n8_len]; exact (HD2.out.ok.sec s hs).len), setS_all, n8_len, hpo.out.2.len]
        have := hpo.out.1
        omega
      refine wpList_put rfl rfl 167 (.tmp 28) (.tmp 27) rfl gs (p.1 * 512) (n8 p.2) _ _ rfl rfl hb3 hfit (by rw [n8_len, hpo.out.2.len]; exact isz_sector) (n8_one _) ?_
      intro W3 hW3 hF3 hz3
      have hD3 := HD2.out.setSec (i := p.1) (b := p.2) (by simp only [setS_all]; exact hpo.out.1) hpo.out.2 (W := W3) (((Fr.refl _ _).drewN nq).trans hF3) hW3
      have HD3 := Lib.hid (show DRep g gs (.slice (some ⟨c, 0, none⟩) D.ca.length cap) { D with st := (D.ca.take (j + 1)).foldl setS D.st } W3 from by rw [hlast.out]; exact hD3)
      have HF3 := Lib.hid (show Fr (Foot g gs (.slice (some ⟨c, 0, none⟩) D.ca.length cap)) w W3 from ((HF.out.then_ HFF.out (fun _ _ h => h.elim)).then_ (((Fr.refl _ _).drewN nq).trans hF3) (fun k _ e => .inr (.inl e))))
      clear hb3 hfit hW3 hF3 hD3 hz3
      go_wp2
      go_roundw
      case rel => exact ⟨j + 1, by go_num, by omega, HD3, HF3⟩
      case measure => simp [intOf]; omega
    · obtain rfl : j = D.ca.length := by omega
      have c1 := HB.out.c1
      have z1 := HB.out.z 1
      have hc := HB.out.clear
      obtain ⟨b, c5⟩ := hc.1.c5
      have hadd := u64_add ⟨g, 5, none⟩ b _ c5 (hc.1.z 5)
      have hres := Lib.hid (show ∀ y W, W = (wr.setCell ⟨g, 1, none⟩ (.slice none 0 0)).setCell ⟨g, 5, none⟩ (.int .u64 y) → DRep g gs (.slice none 0 0) D.flush W ∧ Fr (Foot g gs (.slice X D.ca.length cap)) w W from fun y W e => by
        subst e
        have h5 := hc.1.set5 y
        refine ⟨?_, (HF.out.trans hc.2).then_ h5.2 (fun k _ hk => ?_)⟩
        · have := h5.1
          rw [List.take_length] at this
          exact this
        · rcases hk with hk | hk | hk
          · exact .inl hk
          · exact .inr (.inl hk)
          · cases hk)
      clear hc c5
      go_wp2_with (go_at_call 202; refine hadd.mono ?_; rintro e W ⟨y, rfl, hW⟩; have hDW := hres.out y W hW; have HDW := Lib.hid hDW; clear hDW hW hadd hres)
      go_ret
      exact ⟨rfl, HDW.out⟩
end
end Go.Proofs.YtnbonhinpepgoaaGreat
end
section
set_option linter.unusedVariables false
namespace Go.Proofs.YtnbonhinpepgoaaGreat
open Go.RowKit
def keepOf (keep : List Bool) (l : List (Nat × List Nat)) : List (Nat × List Nat) := (l.zipIdx.filter fun q => keep.getD q.2 false).map (·.1)
def Dk.crash (D : Dk) (keep : List Bool) : Dk := { st := (keepOf keep D.ca).foldl setS D.st, ca := [], down := false, armed := -1 }
theorem keepOf_take (keep : List Bool) (l : List (Nat × List Nat)) (j : Nat) (p : Nat × List Nat) (h : l[j]? = some p) (st : List (List Nat)) :
    (keepOf keep (l.take (j + 1))).foldl setS st = if keep.getD j false = true then setS ((keepOf keep (l.take j)).foldl setS st) p else (keepOf keep (l.take j)).foldl setS st := by
  have hj : j < l.length := (List.getElem?_eq_some_iff.1 h).1
  have e : keepOf keep (l.take (j + 1)) = keepOf keep (l.take j) ++ if keep.getD j false = true then [p] else [] := by
    unfold keepOf
    rw [List.take_add_one, h, Option.toList_some, List.zipIdx_append, List.filter_append, List.map_append]
    have hl : (l.take j).length = j := by simp; omega
    simp only [hl, Nat.zero_add, List.zipIdx_cons, List.zipIdx_nil, List.filter_cons, List.filter_nil]
    split <;> simp
  rw [e]
  split <;> simp
section
variable {g gs : Nat} {cv : Value} {D : Dk} {w : World}
set_option maxRecDepth 10000 in
set_option maxHeartbeats 1000000 in
theorem crash_ok (h : DRep g gs cv D w) (keep : List Bool) (KX : Option Addr) (kc : Nat) (hkl : keep.length ≤ 9223372036854775807) (hk : ∀ W, Fr (Foot g gs cv) w W → ∀ i b, keep[i]? = some b → ∃ q o, KX = some ⟨q, o, none⟩ ∧ W.cell? ⟨q, o + i, none⟩ = some (.bool b)) :
    Calls Tryz.prog 22 #[.pointer (some ⟨g, 0, none⟩), .slice KX keep.length kc] w fun r w' => r = .returned (.tuple #[]) ∧ DRep g gs (.slice none 0 0) (D.crash keep) w' ∧ Fr (Foot g gs cv) w w' := by
  have hlen := h.ok.hi
  have hlo := h.ok.lo
  obtain ⟨X, cap, hcv⟩ := own_form h.own
  subst hcv
  have c1 := h.c1
  have hcl : D.ca.length ≤ 9223372036854775807 := by
    have h1 := h.own.2
    rcases h1 with ⟨_, h0⟩ | ⟨c, cap, cur, e1, _, _, hc, hm', _, _⟩
    · omega
    · unfold maxLen at hm'; omega
  have HH := Lib.hid h
  have hk' := Lib.hid hk
  clear hk
  clear h
  go_enter Tryz.func22, Tryz.ntmps22
  go_wp2
  go_loopw [13, 4] (fun t _ wr => ∃ j : Nat, t = .int .i64 j ∧ j ≤ D.ca.length ∧ Hid (DRep g gs (.slice X D.ca.length cap) { D with st := (keepOf keep (D.ca.take j)).foldl setS D.st } wr) ∧ Hid (Fr (Foot g gs (.slice X D.ca.length cap)) w wr)) (fun t _ _ => D.ca.length - (intOf t).toNat)
  case atStart => exact ⟨0, rfl, Nat.zero_le _, HH, Lib.hid (Fr.refl _ _)⟩
  case round =>
    clear c1
    obtain ⟨j, rfl, hj, HB, HF⟩ := hrel
    by_cases hlt : j < D.ca.length
    · obtain ⟨p, hp⟩ : ∃ p, D.ca[j]? = some p := ⟨_, List.getElem?_eq_getElem hlt⟩
      obtain ⟨c, cap', hX, hr⟩ := HB.out.wr hp
      simp only [Value.slice.injEq] at hX
      obtain ⟨rfl, -, rfl⟩ := hX
      have HR := Lib.hid hr
      have hpo := Lib.hid (HH.out.ok.cac p (List.mem_of_getElem? hp))
      have hwl := Lib.hid (show (wrCell p).length = 513 by rw [wrCell, List.length_cons, n8_len, hpo.out.2.len])
      have hlast0 := Lib.hid (keepOf_take keep D.ca j p hp D.st)
      have c0 := HB.out.c0
      simp only [setS_all] at c0
      have b0 : (0 : Int) ≤ (p.1 : Int) ∧ (p.1 : Int) < (D.st.length : Int) := ⟨by omega, by have := hpo.out.1; omega⟩
      have hlt2 := HB.out.lt (k := g) (.inl rfl)
      clear hr hp
      by_cases hkj : j < keep.length
      · have k0 : (0 : Int) ≤ (j : Int) ∧ (j : Int) < (keep.length : Int) := ⟨by omega, by omega⟩
        have k1 : decide ((j : Int) < (keep.length : Int)) = true := decide_eq_true (by omega)
        obtain ⟨q, o, rfl, -⟩ := hk'.out wr HF.out j keep[j] (List.getElem?_eq_getElem hkj)
        have KC : ∀ W, Fr (fun _ => False) wr W → W.cell? ⟨q, o + j, none⟩ = some (.bool keep[j]) := fun W hW => by
          obtain ⟨q', o', e, hc⟩ := hk'.out W (HF.out.then_ hW (fun _ _ h => h.elim)) j keep[j] (List.getElem?_eq_getElem hkj)
          injection e with e
          injection e with e1 e2
          rw [← e1, ← e2] at hc
          exact hc
        cases hkb : keep[j]
        · rw [hkb] at KC
          have hlast := Lib.hid (show (keepOf keep (D.ca.take (j + 1))).foldl setS D.st = (keepOf keep (D.ca.take j)).foldl setS D.st by rw [hlast0.out, List.getD_eq_getElem?_getD, List.getElem?_eq_getElem hkj, hkb]; simp)
          go_wp2_with (first
            | ((with_reducible refine at_dst (N := 17) rfl ?_); refine wpList_load_mid rfl 169 (.tmp 16) rfl c (j * 513) rfl (wrCell p) _ HR.out Tryz.underlying169 rfl (by rw [hwl.out]; exact isz_write) ?_; simp only [Act.put, List.setIfInBounds_toArray, List.set_cons_zero, List.set_cons_succ])
            | ((with_reducible refine at_dst (N := 5) rfl ?_); refine wpList_alloc rfl 169 513 alloc_write rfl ?_; intro Z W1 hZ hW hF hz; simp only [Act.put, List.setIfInBounds_toArray, List.set_cons_zero, List.set_cons_succ])
            | ((with_reducible refine at_store (p := 5) rfl ?_); refine wpList_put rfl rfl 169 (.tmp 5) (.tmp 17) rfl wr.heap.size 0 (wrCell p) Z _ rfl rfl hW (by rw [hZ, hwl.out]; omega) (by rw [hwl.out]; exact isz_write) (wrCell_one _) ?_; intro W2 hW2 hF2 hz2; rw [splice_all _ _ (by rw [hZ, hwl.out])] at hW2; have hc := cell_of_row W2 _ 0 _ _ _ hW2; have hc' : W2.cell? ⟨wr.heap.size, 0, none⟩ = some (.int .i64 (p.1 : Int)) := hc; clear hc; have HW2 := Lib.hid hW2; have HFF := Lib.hid (hF.then_ hF2 (fun k hk e => by omega)); have c0' := HFF.out.cell c0 id; have ck' := KC _ (HFF.out); clear hW2 hF hF2 hW c0))
          have HD2 := Lib.hid (HB.out.fr HFF.out (fun _ _ => id))
          have HF3 := Lib.hid (HF.out.then_ HFF.out (fun _ _ h => h.elim))
          go_wp2
          go_roundw
          case rel => exact ⟨j + 1, by go_num, by omega, by rw [hlast.out]; exact HD2, HF3⟩
          case measure => simp [intOf]; omega
        · rw [hkb] at KC
          have hlast := Lib.hid (show (keepOf keep (D.ca.take (j + 1))).foldl setS D.st = setS ((keepOf keep (D.ca.take j)).foldl setS D.st) p by rw [hlast0.out, List.getD_eq_getElem?_getD, List.getElem?_eq_getElem hkj, hkb]; simp)
          go_wp2_with (first
            | ((with_reducible refine at_dst (N := 17) rfl ?_); refine wpList_load_mid rfl 169 (.tmp 16) rfl c (j * 513) rfl (wrCell p) _ HR.out Tryz.underlying169 rfl (by rw [hwl.out]; exact isz_write) ?_; simp only [Act.put, List.setIfInBounds_toArray, List.set_cons_zero, List.set_cons_succ])
            | ((with_reducible refine at_dst (N := 5) rfl ?_); refine wpList_alloc rfl 169 513 alloc_write rfl ?_; intro Z W1 hZ hW hF hz; simp only [Act.put, List.setIfInBounds_toArray, List.set_cons_zero, List.set_cons_succ])
            | ((with_reducible refine at_store (p := 5) rfl ?_); refine wpList_put rfl rfl 169 (.tmp 5) (.tmp 17) rfl wr.heap.size 0 (wrCell p) Z _ rfl rfl hW (by rw [hZ, hwl.out]; omega) (by rw [hwl.out]; exact isz_write) (wrCell_one _) ?_; intro W2 hW2 hF2 hz2; rw [splice_all _ _ (by rw [hZ, hwl.out])] at hW2; have hc := cell_of_row W2 _ 0 _ _ _ hW2; have hc' : W2.cell? ⟨wr.heap.size, 0, none⟩ = some (.int .i64 (p.1 : Int)) := hc; clear hc; have HW2 := Lib.hid hW2; have HFF := Lib.hid (hF.then_ hF2 (fun k hk e => by omega)); have c0' := HFF.out.cell c0 id; have ck' := KC _ (HFF.out); clear hW2 hF hF2 hW c0))
          have HD2 := Lib.hid (HB.out.fr HFF.out (fun _ _ => id))
          have HRT := Lib.hid (show ∀ n, (W2.drewN n).rangeAt wr.heap.size 1 (n8 p.2) from fun n j v hv => range_tail HW2.out j v hv)
          go_wp2
          refine wp_region_quiet_tail 9 (by kernel_rfl) (by kernel_rfl) ?_
          simp only [List.take_succ_cons, List.take_zero, List.drop_succ_cons, List.drop_zero]
          repeat (any_goals (first
            | ((with_reducible refine at_qdst (N := 35) rfl ?_); refine wpQuiet_load_mid rfl 167 (.tmp 34) rfl wr.heap.size 1 rfl (n8 p.2) _ (by rintro w' ⟨n, rfl⟩; exact HRT.out n) Tryz.underlying167 rfl (by rw [n8_len, hpo.out.2.len]; exact isz_sector) ?_; simp only [Act.put, List.setIfInBounds_toArray, List.set_cons_zero, List.set_cons_succ])
            | go_big_quiet_step (fail) | quiet_step (fail)))
          refine wpQuiet_nil ?_
          rintro w' ⟨nq, rfl⟩
          have hb3 : (W2.drewN nq).heap[gs]? = some (.cells (secCells ((keepOf keep (D.ca.take j)).foldl setS D.st)).toArray 167 (0, 0)) := HD2.out.sts
          have hfit : p.1 * 512 + (n8 p.2).length ≤ (secCells ((keepOf keep (D.ca.take j)).foldl setS D.st)).length := by
            rw [secCells, flat_len 512 _ _ (fun s hs => by rw [n8_len]; exact (HD2.out.ok.sec s hs).len), setS_all, n8_len, hpo.out.2.len]
            have := hpo.out.1
            omega
          refine wpList_put rfl rfl 167 (.tmp 36) (.tmp 35) rfl gs (p.1 * 512) (n8 p.2) _ _ rfl rfl hb3 hfit (by rw [n8_len, hpo.out.2.len]; exact isz_sector) (n8_one _) ?_
          intro W3 hW3 hF3 hz3
          have hD3 := HD2.out.setSec (i := p.1) (b := p.2) (by simp only [setS_all]; exact hpo.out.1) hpo.out.2 (W := W3) (((Fr.refl _ _).drewN nq).trans hF3) hW3
          have HD3 := Lib.hid (show DRep g gs (.slice (some ⟨c, 0, none⟩) D.ca.length cap) { D with st := (keepOf keep (D.ca.take (j + 1))).foldl setS D.st } W3 from by rw [hlast.out]; exact hD3)
          have HF3 := Lib.hid (show Fr (Foot g gs (.slice (some ⟨c, 0, none⟩) D.ca.length cap)) w W3 from ((HF.out.then_ HFF.out (fun _ _ h => h.elim)).then_ (((Fr.refl _ _).drewN nq).trans hF3) (fun k _ e => .inr (.inl e))))
          clear hb3 hfit hW3 hF3 hD3 hz3
          go_wp2
          go_roundw
          case rel => exact ⟨j + 1, by go_num, by omega, HD3, HF3⟩
          case measure => simp [intOf]; omega
      · have k1 : decide ((j : Int) < (keep.length : Int)) = false := decide_eq_false (by omega)
        have hlast := Lib.hid (show (keepOf keep (D.ca.take (j + 1))).foldl setS D.st = (keepOf keep (D.ca.take j)).foldl setS D.st by rw [hlast0.out, List.getD_eq_getElem?_getD, List.getElem?_eq_none (by omega)]; simp)
        go_wp2_with (first
          | ((with_reducible refine at_dst (N := 17) rfl ?_); refine wpList_load_mid rfl 169 (.tmp 16) rfl c (j * 513) rfl (wrCell p) _ HR.out Tryz.underlying169 rfl (by rw [hwl.out]; exact isz_write) ?_; simp only [Act.put, List.setIfInBounds_toArray, List.set_cons_zero, List.set_cons_succ])
          | ((with_reducible refine at_dst (N := 5) rfl ?_); refine wpList_alloc rfl 169 513 alloc_write rfl ?_; intro Z W1 hZ hW hF hz; simp only [Act.put, List.setIfInBounds_toArray, List.set_cons_zero, List.set_cons_succ])
          | ((with_reducible refine at_store (p := 5) rfl ?_); refine wpList_put rfl rfl 169 (.tmp 5) (.tmp 17) rfl wr.heap.size 0 (wrCell p) Z _ rfl rfl hW (by rw [hZ, hwl.out]; omega) (by rw [hwl.out]; exact isz_write) (wrCell_one _) ?_; intro W2 hW2 hF2 hz2; rw [splice_all _ _ (by rw [hZ, hwl.out])] at hW2; have hc := cell_of_row W2 _ 0 _ _ _ hW2; have hc' : W2.cell? ⟨wr.heap.size, 0, none⟩ = some (.int .i64 (p.1 : Int)) := hc; clear hc; have HW2 := Lib.hid hW2; have HFF := Lib.hid (hF.then_ hF2 (fun k hk e => by omega)); have c0' := HFF.out.cell c0 id; clear hW2 hF hF2 hW c0))
        have HD2 := Lib.hid (HB.out.fr HFF.out (fun _ _ => id))
        have HF3 := Lib.hid (HF.out.then_ HFF.out (fun _ _ h => h.elim))
        go_wp2
        go_roundw
        case rel => exact ⟨j + 1, by go_num, by omega, by rw [hlast.out]; exact HD2, HF3⟩
        case measure => simp [intOf]; omega
    · obtain rfl : j = D.ca.length := by omega
      have c1 := HB.out.c1
      have z1 := HB.out.z 1
      have hc := HB.out.clear
      have hst := bool_store ⟨g, 2, none⟩ false _ _ hc.1.c2 (hc.1.z 2)
      have hres := Lib.hid (show ∀ W, W = (wr.setCell ⟨g, 1, none⟩ (.slice none 0 0)).drew.setCell ⟨g, 2, none⟩ (bw false) → DRep g gs (.slice none 0 0) { st := (keepOf keep D.ca).foldl setS D.st, ca := [], down := false, armed := D.armed } W ∧ Fr (Foot g gs (.slice X D.ca.length cap)) w W from fun W e => by
        subst e
        have h5 := hc.1.drew.set2 false
        refine ⟨?_, (HF.out.trans hc.2).then_ ((Fr.refl _ _).drew.trans h5.2) (fun k _ hk => ?_)⟩
        · have := h5.1
          rw [List.take_length] at this
          exact this
        · rcases hk with hk | hk | hk
          · exact .inl hk
          · exact .inr (.inl hk)
          · cases hk)
      clear hc
      go_wp2_with (go_at_call 89; refine hst.mono ?_; rintro e W ⟨rfl, hW⟩; have hDW := hres.out W hW; have HDW := Lib.hid hDW; have c3 := hDW.1.c3; have z3 := hDW.1.z 3; clear hDW hW hst hres)
      have h3 := HDW.out.1.set3 (-1) (by omega) (by omega)
      have HR := Lib.hid (show DRep g gs (.slice none 0 0) (D.crash keep) (W.setCell ⟨g, 3, none⟩ (.int .i64 (-1))) ∧ Fr (Foot g gs (.slice X D.ca.length cap)) w (W.setCell ⟨g, 3, none⟩ (.int .i64 (-1))) from ⟨h3.1, HDW.out.2.then_ h3.2 (fun k _ hk => by
        rcases hk with hk | hk | hk
        · exact .inl hk
        · exact .inr (.inl hk)
        · cases hk)⟩)
      clear h3
      go_wp2
      go_end0
      exact ⟨rfl, HR.out⟩
end
end Go.Proofs.YtnbonhinpepgoaaGreat
end
section
set_option linter.unusedVariables false
namespace Go.Proofs.YtnbonhinpepgoaaGreat
open Go.RowKit
theorem read_new (b : List Nat) (hx : ∀ x ∈ b, x < 256) (sp : Option Addr) (cap : Nat) (hl : b.length < 1000000000) (w : World) (hs : Has w sp b) :
    Calls Tryz.prog 129 #[.slice sp b.length cap] w fun e w' => ∃ g c, e = .returned (.pointer (some ⟨g, 0, none⟩)) ∧ RdR g c b false w' ∧ w.heap.size ≤ g ∧ w.heap.size ≤ c ∧ g < w'.heap.size ∧ c < w'.heap.size ∧ Fr (fun _ => False) w w' := by
  have hc := clone_b b sp cap hl w hs
  clear hs
  go_enter Tryz.func129, Tryz.ntmps129
  go_wp2_with (go_at_call 85; refine hc.mono ?_; rintro e w1 ⟨v1, rfl, hO1, hF1⟩; obtain ⟨X, cap, rfl⟩ := own_form hO1; have HO1 := Lib.hid hO1; have HF1 := Lib.hid hF1; clear hO1 hF1 hc)
  go_ret
  have hz := HF1.out.size
  have hblk : (w1.alloc (.cells #[.slice X b.length cap, bw false] 262)).heap[w1.heap.size]? = some (.cells #[.slice X b.length cap, bw false] 262 (0, 0)) := heap_alloc_new w1 _
  rcases HO1.out.2 with ⟨e1, e2⟩ | ⟨c, cap', cur, e1, hb, hh, hc, hm, hs, ht⟩
  · simp only [Value.slice.injEq] at e1
    obtain ⟨rfl, -, rfl⟩ := e1
    have hb0 : b = [] := List.eq_nil_of_length_eq_zero e2
    subst hb0
    exact ⟨w1.heap.size, w1.heap.size, rfl, ⟨⟨none, 0, hblk, Nat.le_refl _, by unfold maxLen; omega, fun h => by simp at h⟩, fun h => by simp at h, hx⟩, hz, hz, by simp, by simp, HF1.out.alloc _⟩
  · simp only [Value.slice.injEq] at e1
    obtain ⟨rfl, -, rfl⟩ := e1
    have hcl := block_lt hh
    refine ⟨w1.heap.size, c, rfl, ⟨⟨_, cap, hblk, hc, hm, fun _ => ⟨0, rfl, fun j v hv => ?_⟩⟩, fun _ => by omega, hx⟩, hz, hb, by simp, by simp; omega, HF1.out.alloc _⟩
    have := HO1.out.cells (g := c) rfl j v hv
    rw [addr_add] at this
    exact ((Fr.refl (fun _ => False) w1).alloc _).cell this id
section
variable {g c : Nat} {b : List Nat} {br : Bool} {w : World}
theorem RdR.broke (h : RdR g c b br w) : RdR g c b true (w.drew.setCell ⟨g, 1, none⟩ (bw true)) ∧ Fr (fun k => k = g) w (w.drew.setCell ⟨g, 1, none⟩ (bw true)) := by
  obtain ⟨⟨X, cap, hb, h1, h2, h3⟩, hn, hl⟩ := h
  have hf : Fr (fun k => k = g) w (w.drew.setCell ⟨g, 1, none⟩ (bw true)) := (Fr.refl _ _).drew.setCell _ _ (fun _ => rfl)
  exact ⟨⟨⟨X, cap, heap_setCell (w := w.drew) hb _, h1, h2, fun h0 => h3.fr hf (fun e => hn h0 e.symm) h0⟩, hn, hl⟩, hf⟩
theorem RdR.eat (h : RdR g c b br w) (q : Nat) (hq : q ≤ b.length) : ∃ X cap, b.length ≤ cap ∧ w.cell? ⟨g, 0, none⟩ = some (.slice X b.length cap) ∧ w.frozen? ⟨g, 0, none⟩ = false ∧ BSl w X c b ∧
    RdR g c (b.drop q) br (w.setCell ⟨g, 0, none⟩ (.slice (subX X q cap) (b.length - q) (cap - q))) ∧ Fr (fun k => k = g) w (w.setCell ⟨g, 0, none⟩ (.slice (subX X q cap) (b.length - q) (cap - q))) := by
  obtain ⟨⟨X, cap, hb, h1, h2, h3⟩, hn, hl⟩ := h
  have hf := fr_set w g 0 (.slice (subX X q cap) (b.length - q) (cap - q))
  refine ⟨X, cap, h1, cell_of_row w g 0 _ _ _ hb, by simp [World.frozen?, hb], h3, ⟨⟨subX X q cap, cap - q, ?_, by simp; omega, by omega, ?_⟩, fun h0 => hn (by simp at h0; omega), fun x hx => hl x (List.mem_of_mem_drop hx)⟩, hf⟩
  · rw [heap_setCell hb, List.length_drop]
    rfl
  · intro h0
    exact (h3.drop q cap h1).fr hf (fun e => hn (by simp at h0; omega) e.symm) h0
set_option maxHeartbeats 1000000 in
theorem head_none (h : RdR g c b br w) (sg many : Nat) (hm : many ≤ 8) (hsg : sg < 256) (hr : rdHead b br sg many = none) :
    Calls Tryz.prog 191 #[.pointer (some ⟨g, 0, none⟩), .int .u8 sg, .int .i64 many] w fun e w' => e = .returned (.tuple #[.int .u64 0, .bool false]) ∧ RdR g c b true w' ∧ Fr (fun k => k = g) w w' := by
  obtain ⟨X, cap, hcap, c0, z0, hbs, -, -⟩ := h.eat 0 (Nat.zero_le _)
  have c1 : w.cell? ⟨g, 1, none⟩ = some (bw br) := by
    obtain ⟨X, cap, hb, _⟩ := h.blk
    exact cell_of_row w g 1 _ _ _ hb
  have z1 : w.frozen? ⟨g, 1, none⟩ = false := by
    obtain ⟨X, cap, hb, _⟩ := h.blk
    simp [World.frozen?, hb]
  have hld := bool_load ⟨g, 1, none⟩ br w c1
  have HB := Lib.hid h.broke
  have hlen : b.length ≤ 9223372036854775807 := by
    obtain ⟨X, cap, hb, h1, h2, _⟩ := h.blk
    unfold maxLen at h2
    omega
  cases br
  · have hst := bool_store ⟨g, 1, none⟩ true _ w c1 z1
    unfold rdHead at hr
    by_cases hl : b.length ≤ many
    · have d1 : decide ((b.length : Int) ≤ (many : Int)) = true := decide_eq_true (by omega)
      clear hr h
      go_enter Tryz.func191, Tryz.ntmps191
      go_wp2_with (first
        | (go_at_call 83; refine hld.mono ?_; rintro e w' ⟨rfl, rfl⟩)
        | (go_at_call 89; refine hst.mono ?_; rintro e w' ⟨rfl, rfl⟩; generalize w.drew.setCell ⟨g, 1, none⟩ (bw true) = W at HB ⊢))
      go_ret2
      exact ⟨rfl, HB.out⟩
    · obtain ⟨x, hx⟩ : ∃ x, b[0]? = some x := ⟨_, List.getElem?_eq_getElem (by omega)⟩
      obtain ⟨o, rfl, hcx⟩ := hbs.cell hx
      have hne : x ≠ sg := by
        intro e
        have : b.headD 0 = x := by
          cases b with
          | nil => simp at hx
          | cons y t => simpa using hx
        rw [if_neg (by decide), if_neg hl, if_neg (by rw [this]; exact fun h => h e)] at hr
        cases hr
      have d1 : decide ((b.length : Int) ≤ (many : Int)) = false := decide_eq_false (by omega)
      have d2 : ((x : Int) != (sg : Int)) = true := by simp; omega
      have b0 : (0 : Int) ≤ 0 ∧ (0 : Int) < (b.length : Int) := ⟨by omega, by omega⟩
      rw [Nat.add_zero] at hcx
      clear hr h hx
      go_enter Tryz.func191, Tryz.ntmps191
      go_wp2_with (first
        | (go_at_call 83; refine hld.mono ?_; rintro e w' ⟨rfl, rfl⟩)
        | (go_at_call 89; refine hst.mono ?_; rintro e w' ⟨rfl, rfl⟩; generalize w.drew.setCell ⟨g, 1, none⟩ (bw true) = W at HB ⊢))
      go_ret2
      exact ⟨rfl, HB.out⟩
  · have HH := Lib.hid h
    clear h HB
    go_enter Tryz.func191, Tryz.ntmps191
    go_wp2_with (go_at_call 83; refine hld.mono ?_; rintro e w' ⟨rfl, rfl⟩)
    go_ret2
    exact ⟨rfl, HH.out, Fr.refl _ _⟩
set_option maxHeartbeats 1000000 in
theorem head_some (h : RdR g c b br w) (sg many n : Nat) (hm0 : 0 < many) (hm : many ≤ 8) (hsg : sg < 256) (hr : rdHead b br sg many = some n) :
    Calls Tryz.prog 191 #[.pointer (some ⟨g, 0, none⟩), .int .u8 sg, .int .i64 many] w fun e w' => e = .returned (.tuple #[.int .u64 n, .bool true]) ∧ w = w' := by
  obtain ⟨X, cap, hcap, c0, z0, hbs, -, -⟩ := h.eat 0 (Nat.zero_le _)
  have c1 : w.cell? ⟨g, 1, none⟩ = some (bw br) := by
    obtain ⟨X, cap, hb, _⟩ := h.blk
    exact cell_of_row w g 1 _ _ _ hb
  have hld := bool_load ⟨g, 1, none⟩ br w c1
  have hlen : cap ≤ 9223372036854775807 ∧ b.length ≤ 9223372036854775807 := by
    obtain ⟨X', cap', hb, h1, h2, _⟩ := h.blk
    have hc := cell_of_row w g 0 _ _ _ hb
    have hc' : w.cell? ⟨g, 0, none⟩ = some (.slice X' b.length cap') := hc
    rw [c0] at hc'
    simp only [Option.some.injEq, Value.slice.injEq] at hc'
    unfold maxLen at h2
    omega
  have hlt := h.lt
  cases br
  · unfold rdHead at hr
    rw [if_neg (by decide)] at hr
    by_cases hl : b.length ≤ many
    · rw [if_pos hl] at hr; cases hr
    rw [if_neg hl] at hr
    obtain ⟨x, hx⟩ : ∃ x, b[0]? = some x := ⟨_, List.getElem?_eq_getElem (by omega)⟩
    have hhd : b.headD 0 = x := by
      cases b with
      | nil => simp at hx
      | cons y t => simpa using hx
    obtain ⟨o, rfl, hcx⟩ := hbs.cell hx
    by_cases he : x = sg
    · rw [if_neg (by rw [hhd]; exact fun h => h he)] at hr
      obtain rfl := Option.some.inj hr
      have d1 : decide ((b.length : Int) ≤ (many : Int)) = false := decide_eq_false (by omega)
      have d2 : ((x : Int) != (sg : Int)) = false := by simp [he]
      have b0 : (0 : Int) ≤ 0 ∧ (0 : Int) < (b.length : Int) := ⟨by omega, by omega⟩
      rw [Nat.add_zero] at hcx
      have hsl : ∀ W, (Instr.sliceAt 42 (.slice (some ⟨c, o, none⟩) b.length cap) (some (.int .i64 1)) (some (.int .i64 (1 + (many : Int)))) none).run Tryz.prog W = .ok (.slice (some ⟨c, o + 1, none⟩) many (cap - 1)) W := fun W => by
        have := run_lh (some ⟨c, o, none⟩) b.length cap 1 (1 + many) .i64 .i64 (by omega) (by omega) W
        rw [subX, if_neg (by omega), Option.map_some, addr_add, show 1 + many - 1 = many by omega, show ((1 + many : Nat) : Int) = 1 + (many : Int) by omega] at this
        exact this
      have HSL := Lib.hid hsl
      have HBS := Lib.hid (hbs)
      have HLT := Lib.hid hlt
      have hbl : many < b.length := by omega
      have HL := Lib.hid (show ∀ j, j < many → ∃ y, ((b.drop 1).take many)[j]? = some y ∧ w.cell? ⟨c, o + 1 + j, none⟩ = some (.int .u8 y) ∧ y < 256 from fun j hj => by
        have hjb : 1 + j < b.length := by omega
        refine ⟨b[1 + j], ?_, ?_, HLT.out _ (List.getElem_mem hjb)⟩
        · rw [List.getElem?_take_of_lt hj, List.getElem?_drop, List.getElem?_eq_getElem hjb]
        · obtain ⟨o', e, hc⟩ := HBS.out.cell (List.getElem?_eq_getElem hjb)
          injection e with e
          injection e with e1 e2
          subst e2
          rw [Nat.add_assoc]
          exact hc)
      have HLL := Lib.hid (show ((b.drop 1).take many).length = many ∧ ∀ x ∈ (b.drop 1).take many, x < 256 from ⟨by simp; omega, fun x hx => HLT.out x (List.mem_of_mem_drop (List.mem_of_mem_take hx))⟩)
      generalize (b.drop 1).take many = L at HL HLL ⊢
      clear hr h hx hsl hbs hlt
      go_enter Tryz.func191, Tryz.ntmps191
      go_wp2_with (first
        | (go_at_call 83; refine hld.mono ?_; rintro e w' ⟨rfl, rfl⟩)
        | ((with_reducible refine at_dst (N := 46) rfl ?_); refine wpList_run rfl _ _ (exec_sliceAt _ _ _ _ _ rfl (.slice (some ⟨c, o, none⟩) b.length cap) (some (.int .i64 1)) (some (.int .i64 (1 + (many : Int)))) none rfl rfl rfl rfl _ (HSL.out w)) ?_; simp only [Act.put, List.setIfInBounds_toArray, List.set_cons_zero, List.set_cons_succ]))
      clear HSL HBS HLT hcx c0
      go_loop [48, 8] (fun t v => ∃ j : Nat, t = .int .i64 j ∧ j ≤ many ∧ v = .int .u64 ((beVal (L.take j) : Nat) : Int)) (fun t _ => many - (intOf t).toNat)
      case atStart => exact ⟨0, rfl, Nat.zero_le _, rfl⟩
      case round =>
        obtain ⟨j, rfl, hj, rfl⟩ := hrel
        by_cases hjm : j < many
        · obtain ⟨y, hy, hcy, hyl⟩ := HL.out j hjm
          have hts : L.take (j + 1) = L.take j ++ [y] := by rw [List.take_add_one, hy]; rfl
          have hv := beVal_lt (L.take j) (fun x hx => HLL.out.2 x (List.mem_of_mem_take hx))
          have hlen : (L.take j).length = j := by have := HLL.out.1; simp; omega
          rw [hlen] at hv
          have hv7 : beVal (L.take j) < 72057594037927936 := Nat.lt_of_lt_of_le hv (Nat.le_trans (Nat.pow_le_pow_right (by decide) (by omega : j ≤ 7)) (by decide))
          have HE := Lib.hid (show Go.bits .or .u64 (((beVal (L.take j) : Nat) : Int) * 256) (y : Int) = ((beVal (L.take (j + 1)) : Nat) : Int) by rw [or_byte _ _ hv7 hyl, hts, beVal_snoc])
          clear hts hv hlen hy
          generalize beVal (L.take j) = A at *
          go_wp2
          go_round
          case rel => exact ⟨j + 1, by go_num, by omega, by rw [← HE.out]⟩
          case measure => simp [intOf]; omega
        · obtain rfl : j = many := by omega
          rw [List.take_of_length_le (by rw [HLL.out.1]; omega)]
          go_wp2
          go_ret2
          exact ⟨rfl, rfl⟩
    · rw [if_pos (by rw [hhd]; exact he)] at hr
      cases hr
  · rw [rdHead, if_pos rfl] at hr
    cases hr
end
end Go.Proofs.YtnbonhinpepgoaaGreat
end
