/- Texts of this proof, laid together: Core, Clk, Sha, R256Body, QuietTail, ShaA, ShaB0, ShaB, ShaC0, ShaC, ShaD, ClkA, ClkB. -/
import Derived.Lib.Builder
import Derived.Lib.Strings
import Derived.Lib.Hide
import Derived.Lib.ConvBytes
import Derived.Lib.AppendStr
import Derived.Lib.UnsafeStr
import Derived.Deep.QuietTactic
import Derived.BigQuiet
import Derived.Laws.BytesArg
import Derived.WalkKit
import Derived.KernelRfl
import Derived.StillTail
import Derived.Deep.MidRow
import Derived.StillTailTactics
import Derived.IntWalk
import Derived.Laws.CopyOwn
import Derived.LoopN
import Derived.Test.YtghcadbmjglidaaGreatDoorProg
set_option linter.unusedVariables false
set_option linter.unusedSimpArgs false
section
set_option linter.unusedVariables false
namespace Go.Proofs.YtghcadbmjglidaaGreatDoor
open Go.RowKit
structure Fr (M : Nat → Prop) (w w' : World) : Prop where
  os : w'.os = w.os
  tape : w'.tape = w.tape
  output : w'.output = w.output
  size : w.heap.size ≤ w'.heap.size
  keep : ∀ k, k < w.heap.size → ¬ M k → w'.heap[k]? = w.heap[k]?
namespace Fr
variable {M N : Nat → Prop} {w w' w'' : World}
theorem refl (M : Nat → Prop) (w : World) : Fr M w w := ⟨rfl, rfl, rfl, Nat.le_refl _, fun _ _ _ => rfl⟩
theorem trans (h : Fr M w w') (k : Fr M w' w'') : Fr M w w'' :=
  ⟨k.os.trans h.os, k.tape.trans h.tape, k.output.trans h.output, Nat.le_trans h.size k.size, fun i hi hM => (k.keep i (Nat.lt_of_lt_of_le hi h.size) hM).trans (h.keep i hi hM)⟩
theorem mono (h : Fr M w w') (hm : ∀ k, k < w.heap.size → M k → N k) : Fr N w w' :=
  ⟨h.os, h.tape, h.output, h.size, fun i hi hN => h.keep i hi fun hM => hN (hm i hi hM)⟩
theorem then_ (h : Fr N w w') (k : Fr M w' w'') (hm : ∀ k, k < w.heap.size → M k → N k) : Fr N w w'' :=
  ⟨k.os.trans h.os, k.tape.trans h.tape, k.output.trans h.output, Nat.le_trans h.size k.size, fun i hi hN => (k.keep i (Nat.lt_of_lt_of_le hi h.size) fun hM => hN (hm i hi hM)).trans (h.keep i hi hN)⟩
theorem alloc (h : Fr M w w') (o : Obj) : Fr M w (w'.alloc o) :=
  ⟨h.os, h.tape, h.output, Nat.le_trans h.size (by simp), fun k hk hM => (Below.heap_alloc w' o k (Nat.lt_of_lt_of_le hk h.size)).trans (h.keep k hk hM)⟩
theorem drew (h : Fr M w w') : Fr M w w'.drew := ⟨h.os, h.tape, h.output, h.size, h.keep⟩
theorem drewN (h : Fr M w w') (n : Nat) : Fr M w (w'.drewN n) := ⟨h.os, h.tape, h.output, h.size, h.keep⟩
theorem setCell (h : Fr M w w') (a : Addr) (v : Value) (hm : a.block < w.heap.size → M a.block) : Fr M w (w'.setCell a v) :=
  ⟨h.os, h.tape, h.output, Nat.le_trans h.size (by simp), fun k hk hM => (Below.heap_setCell w' a v k (fun e => hM (e ▸ hm (e ▸ hk)))).trans (h.keep k hk hM)⟩
theorem grown {row : Option Nat} (h : Fr M w w') (g : w'.grownBy w'' row) (hm : ∀ k, row = some k → k < w.heap.size → M k) : Fr M w w'' :=
  ⟨g.os.trans h.os, g.tape.trans h.tape, g.output.trans h.output, Nat.le_trans h.size g.size, fun k hk hM => (g.block k (Nat.lt_of_lt_of_le hk h.size) (fun e => hM (hm k e.symm hk))).trans (h.keep k hk hM)⟩
theorem of_below {B : Nat} (h : Below B w w') : Fr (fun k => B ≤ k) w w' :=
  ⟨h.os, h.tape, h.output, h.size, fun k _ hM => h.block k (by omega)⟩
theorem of_below0 (h : Below w.heap.size w w') : Fr (fun _ => False) w w' :=
  ⟨h.os, h.tape, h.output, h.size, fun k hk _ => h.block k hk⟩
theorem below (h : Fr M w w') {B : Nat} (hB : B ≤ w.heap.size) (hm : ∀ k, k < B → ¬ M k) : Below B w w' :=
  ⟨h.os, h.tape, h.output, h.size, fun k hk => h.keep k (by omega) (hm k hk)⟩
theorem heap (h : Fr M w w') {k : Nat} {o : Obj} (hk : w.heap[k]? = some o) (hM : ¬ M k) : w'.heap[k]? = some o :=
  (h.keep k (Array.getElem?_eq_some_iff.1 hk).1 hM).trans hk
theorem cell (h : Fr M w w') {a : Addr} {v : Value} (hc : w.cell? a = some v) (hM : ¬ M a.block) : w'.cell? a = some v :=
  (World.cell?_of_block (h.keep a.block (World.block_lt_of_cell? w a hc) hM)).trans hc
end Fr
abbrev bcells (l : List UInt8) : List Value := Lib.byteCells l
theorem bcells_append (l m : List UInt8) : bcells (l ++ m) = bcells l ++ bcells m := by simp [Lib.byteCells]
theorem block_lt {w : World} {k : Nat} {o : Obj} (h : w.heap[k]? = some o) : k < w.heap.size := (Array.getElem?_eq_some_iff.1 h).1
theorem heap_setCell {w : World} {b j : Nat} {cs : Array Value} {T : TypeId} {fr : Nat × Nat} (h : w.heap[b]? = some (.cells cs T fr)) (u : Value) :
    (w.setCell ⟨b, j, none⟩ u).heap[b]? = some (.cells (cs.setIfInBounds j u) T fr) := by simp [World.setCell, Array.getElem?_modify, h]
theorem Fr.bytesWorld {M : Nat → Prop} {w w' : World} (h : Fr M w w') (e : TypeId) (s : ByteArray) : Fr M w (Lib.bytesWorld w' e s) :=
  ⟨h.os, h.tape, h.output, Nat.le_trans h.size (by rw [Lib.bytesWorld_size]; omega), fun k hk hM => (Lib.bytesWorld_at_old w' e s k (Nat.lt_of_lt_of_le hk h.size)).trans (h.keep k hk hM)⟩
theorem addr_add0 (g j : Nat) : (⟨g, 0, none⟩ : Addr).add j = ⟨g, j, none⟩ := by unfold Addr.add; split <;> simp_all
section
variable {P : Program} {ops : Array Oper} {rest : List Oper} {o : Oper} {a : Act} {Q : Exit → Act → World → Prop}
theorem app_lit {W : World} {base n size bytes : Nat} {v : Value} {xs : List Value} {t e : TypeId} {z : Value} {s x : Operand} {c : Nat} (hown : W.ownsRow base e size v n xs) (m : Nat) (news : List Value)
    (ht : P.underlying t = some (.slice e)) (hinfo : (P.info? e).map (fun i => (i.zero, i.size, i.bytes)) = some (some z, size, bytes)) (hz : z.cells.size = size) (hsz : 0 < size)
    (hl : news.length = m * size) (h1 : ∀ u ∈ news, u.oneCell' = true) (h63 : n + m ≤ 140737488355328) (hbytes : (n + m) * bytes ≤ 140737488355328) (hbase : base ≤ W.heap.size)
    (hgd : o.guard = none) (ho : o.op = .call { callee := .builtin .append, args := #[s, x], argTypes := #[t, t] }) (hs : a.eval s = v) (hx : a.eval x = .slice (some ⟨W.heap.size, 0, none⟩) m c)
    (h : ∀ v' w', w'.ownsRow base e size v' (n + m) (xs ++ news) → Fr (fun k => base ≤ k) W w' → wpList P ops Q rest (a.put o.dst v') w') :
    wpList P ops Q (o :: rest) a (W.alloc (.cells news.toArray e)) := by
  obtain ⟨i0, hi, hz0, hz1, hz2⟩ := info_parts hinfo
  refine wpList_append_own _ hgd s x t ho base e i0 z size bytes ht hi hz0 hz1 hz2 hz hsz v n xs hs (hown.alloc _) ⟨W.heap.size, 0, none⟩ m c news hx hl ?_ h1 (by unfold maxLen; omega) hbytes (by simp; omega) fun v' w' h2 h3 _ => h v' w' h2 ?_
  · intro j u hj
    rw [addr_add0]
    simpa using hj
  · exact Fr.grown ((Fr.refl _ _).alloc _) h3 fun k hk _ => (hown.lt k hk).1
theorem news_alloc (W : World) (news : List Value) (e : TypeId) : ∀ j u, news[j]? = some u → (W.alloc (.cells news.toArray e)).cell? ((⟨W.heap.size, 0, none⟩ : Addr).add j) = some u := by
  intro j u hj
  rw [addr_add0]
  simpa using hj
theorem one_cell1 {u : Value} (h : u.oneCell' = true) : ∀ x ∈ [u], x.oneCell' = true := by simpa using h
end
end Go.Proofs.YtghcadbmjglidaaGreatDoor
end
section
set_option linter.unusedVariables false
namespace Go.Proofs.YtghcadbmjglidaaGreatDoor.Clk
def lp (y : Int) : Bool := decide (y % 4 = 0) && (decide (y % 100 ≠ 0) || decide (y % 400 = 0))
def bg (b : Bool) : List Int := if b then [0, 31, 60, 91, 121, 152, 182, 213, 244, 274, 305, 335, 366] else [0, 31, 59, 90, 120, 151, 181, 212, 243, 273, 304, 334, 365]
def ahd (y : Int) : Int := 365 * (y - 1) + (y - 1) / 4 - (y - 1) / 100 + (y - 1) / 400
def mfrom (l : List Int) (n : Int) : Nat → Nat → Nat
  | 0, m => m
  | k + 1, m => if l.getD m 0 ≤ n then mfrom l n k (m + 1) else m
def cq (n : Int) : Int := n / 146097
def cr (n : Int) : Int := n % 146097
def cc (n : Int) : Int := if cr n / 36524 ≤ 3 then cr n / 36524 else 3
def c2 (n : Int) : Int := cr n - cc n * 36524
def c4 (n : Int) : Int := c2 n / 1461
def c5 (n : Int) : Int := c2 n % 1461
def ca (n : Int) : Int := if c5 n / 365 ≤ 3 then c5 n / 365 else 3
def yr (n : Int) : Int := 400 * cq n + (100 * cc n + 4 * c4 n + ca n + 1)
def dy (n : Int) : Int := c5 n - ca n * 365
def mo (n : Int) : Nat := mfrom (bg (lp (yr n))) (dy n) 12 1
def civ (day : Int) : Int × Int × Int :=
  if day < -719162 ∨ 2932896 < day then (0, 0, 0)
  else (yr (day + 719162), (mo (day + 719162) : Int), dy (day + 719162) - (bg (lp (yr (day + 719162)))).getD (mo (day + 719162) - 1) 0 + 1)
def day (y m d : Int) : Int × Int :=
  if y < 1 ∨ 9999 < y ∨ m < 1 ∨ 12 < m then (0, 6)
  else if d < 1 ∨ (bg (lp y)).getD m.toNat 0 - (bg (lp y)).getD (m.toNat - 1) 0 < d then (0, 6)
  else (-719162 + ahd y + (bg (lp y)).getD (m.toNat - 1) 0 + d - 1, 0)
theorem lp_iff (y : Int) : lp y = true ↔ y % 4 = 0 ∧ (y % 100 ≠ 0 ∨ y % 400 = 0) := by simp [lp]
theorem lp_no (y : Int) : lp y = false ↔ ¬ (y % 4 = 0 ∧ (y % 100 ≠ 0 ∨ y % 400 = 0)) := by rw [← lp_iff]; cases lp y <;> simp
theorem yr_ok (n : Int) (h0 : 0 ≤ n) (h1 : n ≤ 3652058) : 1 ≤ yr n ∧ yr n ≤ 9999 ∧ dy n = n - ahd (yr n) ∧ 0 ≤ dy n ∧ dy n < 366 ∧ (lp (yr n) = false → dy n < 365) := by
  have hq : cq n = n / 146097 := rfl
  have hr : cr n = n % 146097 := rfl
  have hc : (cc n = cr n / 36524 ∧ cr n / 36524 ≤ 3) ∨ (cc n = 3 ∧ 3 < cr n / 36524) := by unfold cc; split <;> omega
  have h2 : c2 n = cr n - cc n * 36524 := rfl
  have h4 : c4 n = c2 n / 1461 := rfl
  have h5 : c5 n = c2 n % 1461 := rfl
  have ha : (ca n = c5 n / 365 ∧ c5 n / 365 ≤ 3) ∨ (ca n = 3 ∧ 3 < c5 n / 365) := by unfold ca; split <;> omega
  have hy : yr n = 400 * cq n + (100 * cc n + 4 * c4 n + ca n + 1) := rfl
  have hd : dy n = c5 n - ca n * 365 := rfl
  rw [lp_no]
  unfold ahd
  generalize cq n = q at *
  generalize cr n = r at *
  generalize cc n = c at *
  generalize c2 n = u at *
  generalize c4 n = v at *
  generalize c5 n = x at *
  generalize ca n = a at *
  generalize yr n = y at *
  generalize dy n = d at *
  have b1 : 0 ≤ q ∧ q ≤ 24 := by omega
  have b2 : 0 ≤ r ∧ r < 146097 := by omega
  have b3 : 0 ≤ c ∧ c ≤ 3 := by omega
  have b4 : 0 ≤ u ∧ u ≤ 36524 ∧ (c < 3 → u < 36524) := by omega
  have b5 : 0 ≤ v ∧ v ≤ 24 := by omega
  have b6 : 0 ≤ x ∧ x < 1461 ∧ (v = 24 ∧ c < 3 → x < 1460) := by omega
  have b7 : 0 ≤ a ∧ a ≤ 3 := by omega
  have b8 : 0 ≤ d ∧ d ≤ 365 ∧ (a < 3 → d < 365) ∧ (x < 1460 → d < 365) := by omega
  have e1 : (y - 1) / 4 = 100 * q + 25 * c + v := by omega
  have e2 : (y - 1) / 100 = 4 * q + c := by omega
  have e3 : (y - 1) / 400 = q := by omega
  have e4 : n = 146097 * q + r := by omega
  have e5 : u = 1461 * v + x := by omega
  rw [e1, e2, e3]
  refine ⟨by omega, by omega, by omega, by omega, by omega, fun hl => ?_⟩
  by_cases h : d < 365
  · exact h
  · exfalso
    have a3 : a = 3 := by omega
    have : ¬ (v = 24 ∧ c < 3) := fun hh => by omega
    exact hl (by omega)
theorem mfrom_step (l : List Int) (n : Int) : ∀ (k m : Nat), m ≤ mfrom l n k m ∧ mfrom l n k m ≤ m + k ∧ (∀ j, m ≤ j → j < mfrom l n k m → l.getD j 0 ≤ n) ∧ (mfrom l n k m < m + k → n < l.getD (mfrom l n k m) 0)
  | 0, m => ⟨Nat.le_refl _, Nat.le_refl _, fun j h1 h2 => by simp only [mfrom] at h2; omega, fun h => by simp only [mfrom] at h; omega⟩
  | k + 1, m => by
    rw [mfrom]
    split
    · rename_i h
      have ih := mfrom_step l n k (m + 1)
      refine ⟨by omega, by omega, fun j h1 h2 => ?_, fun h3 => ih.2.2.2 (by omega)⟩
      by_cases e : j = m
      · rw [e]; exact h
      · exact ih.2.2.1 j (by omega) h2
    · rename_i h
      exact ⟨Nat.le_refl _, by omega, fun j h1 h2 => by omega, fun _ => by omega⟩
theorem bg_12 (b : Bool) : (bg b).getD 12 0 = if b then 366 else 365 := by cases b <;> rfl
theorem bg_0 (b : Bool) : (bg b).getD 0 0 = 0 := by cases b <;> rfl
theorem mfrom_ok (b : Bool) (n : Int) (h0 : 0 ≤ n) (h1 : n < 366) (h2 : b = false → n < 365) :
    1 ≤ mfrom (bg b) n 12 1 ∧ mfrom (bg b) n 12 1 ≤ 12 ∧ (bg b).getD (mfrom (bg b) n 12 1 - 1) 0 ≤ n ∧ n < (bg b).getD (mfrom (bg b) n 12 1) 0 := by
  obtain ⟨a1, a2, a3, a4⟩ := mfrom_step (bg b) n 12 1
  generalize mfrom (bg b) n 12 1 = m at *
  have hm : m ≤ 12 := by
    by_cases h : m ≤ 12
    · exact h
    · have h3 := a3 12 (by omega) (by omega)
      rw [bg_12] at h3
      cases b
      · have := h2 rfl; simp at h3; omega
      · simp at h3; omega
  refine ⟨a1, hm, ?_, a4 (by omega)⟩
  by_cases h : m = 1
  · rw [h, Nat.sub_self, bg_0]; exact h0
  · exact a3 (m - 1) (by omega) (by omega)
theorem day_civ (n : Int) (h0 : -719162 ≤ n) (h1 : n ≤ 2932896) : day (civ n).1 (civ n).2.1 (civ n).2.2 = (n, 0) ∧ 1 ≤ (civ n).1 ∧ (civ n).1 ≤ 9999 ∧ 1 ≤ (civ n).2.1 ∧ (civ n).2.1 ≤ 12 ∧ 1 ≤ (civ n).2.2 ∧ (civ n).2.2 ≤ 31 := by
  have hy := yr_ok (n + 719162) (by omega) (by omega)
  have hm := mfrom_ok (lp (yr (n + 719162))) (dy (n + 719162)) hy.2.2.2.1 hy.2.2.2.2.1 hy.2.2.2.2.2
  have hd : ∀ (b : Bool) (m : Nat), 1 ≤ m → m ≤ 12 → (bg b).getD m 0 - (bg b).getD (m - 1) 0 ≤ 31 := by
    intro b m h1 h2
    match m, h1, h2 with
    | 1, _, _ | 2, _, _ | 3, _, _ | 4, _, _ | 5, _, _ | 6, _, _ | 7, _, _ | 8, _, _ | 9, _, _ | 10, _, _ | 11, _, _ | 12, _, _ => cases b <;> decide
  have h31 := hd (lp (yr (n + 719162))) _ hm.1 hm.2.1
  have hc : civ n = (yr (n + 719162), (mo (n + 719162) : Int), dy (n + 719162) - (bg (lp (yr (n + 719162)))).getD (mo (n + 719162) - 1) 0 + 1) := if_neg (by omega)
  have hmo : mo (n + 719162) = mfrom (bg (lp (yr (n + 719162)))) (dy (n + 719162)) 12 1 := rfl
  rw [← hmo] at hm h31
  rw [hc]
  generalize mo (n + 719162) = m at *
  have hdd := hy.2.2.1
  generalize yr (n + 719162) = y at *
  generalize dy (n + 719162) = d at *
  simp only
  refine ⟨?_, hy.1, hy.2.1, by omega, by omega, by omega, by omega⟩
  unfold day
  rw [Int.toNat_natCast, if_neg (by omega), if_neg (by omega)]
  refine Prod.ext ?_ rfl
  simp only
  omega
theorem bg_le (b : Bool) : ∀ j, 0 ≤ (bg b).getD j 0 ∧ (bg b).getD j 0 ≤ 366 := by
  intro j
  match j with
  | 0 | 1 | 2 | 3 | 4 | 5 | 6 | 7 | 8 | 9 | 10 | 11 | 12 => cases b <;> decide
  | j + 13 => cases b <;> (simp [bg])
theorem day_range (y m d : Int) : -1000000 ≤ (day y m d).1 ∧ (day y m d).1 ≤ 4000000 ∧ 0 ≤ (day y m d).2 ∧ (day y m d).2 ≤ 6 := by
  have h1 := bg_le (lp y) m.toNat
  have h2 := bg_le (lp y) (m.toNat - 1)
  unfold day
  split
  · simp
  · split
    · simp
    · unfold ahd
      simp only
      omega
end Go.Proofs.YtghcadbmjglidaaGreatDoor.Clk
end
section
set_option linter.unusedVariables false
namespace Sha
open Go
theorem ofInt_nat (n a : Nat) : BitVec.ofInt n (a : Int) = BitVec.ofNat n a := by
  apply BitVec.eq_of_toNat_eq
  simp
theorem wrap_nat {k : IntKind} (hs : k.signed = false) {a : Nat} (h : a < 2 ^ k.bits) : k.wrap (a : Int) = a := by
  unfold IntKind.wrap
  rw [hs]
  simp only [Bool.false_and, Bool.false_eq_true, if_false]
  have : ((2 : Int) ^ k.bits) = ((2 ^ k.bits : Nat) : Int) := by norm_cast
  rw [this]
  exact Int.emod_eq_of_lt (by omega) (by omega)
theorem xor_nat {k : IntKind} (hs : k.signed = false) {a b : Nat} (ha : a < 2 ^ k.bits) (hb : b < 2 ^ k.bits) : Go.bits .xor k (a : Int) (b : Int) = ((a ^^^ b : Nat) : Int) := by
  unfold Go.bits
  simp only [ofInt_nat, BitVec.toNat_xor, BitVec.toNat_ofNat, Nat.mod_eq_of_lt ha, Nat.mod_eq_of_lt hb]
  exact wrap_nat hs (Nat.xor_lt_two_pow ha hb)
theorem and_nat {k : IntKind} (hs : k.signed = false) {a b : Nat} (ha : a < 2 ^ k.bits) (hb : b < 2 ^ k.bits) : Go.bits .and k (a : Int) (b : Int) = ((a &&& b : Nat) : Int) := by
  unfold Go.bits
  simp only [ofInt_nat, BitVec.toNat_and, BitVec.toNat_ofNat, Nat.mod_eq_of_lt ha, Nat.mod_eq_of_lt hb]
  exact wrap_nat hs (Nat.and_lt_two_pow a hb)
theorem or_nat {k : IntKind} (hs : k.signed = false) {a b : Nat} (ha : a < 2 ^ k.bits) (hb : b < 2 ^ k.bits) : Go.bits .or k (a : Int) (b : Int) = ((a ||| b : Nat) : Int) := by
  unfold Go.bits
  simp only [ofInt_nat, BitVec.toNat_or, BitVec.toNat_ofNat, Nat.mod_eq_of_lt ha, Nat.mod_eq_of_lt hb]
  exact wrap_nat hs (Nat.or_lt_two_pow ha hb)
abbrev M : Nat := 4294967296
def rot (x s : Nat) : Nat := (x * 2 ^ s) % M ||| x / 2 ^ (32 - s)
theorem rot_lt {x s : Nat} (h : x < M) : rot x s < M := by
  unfold rot
  refine Nat.or_lt_two_pow (n := 32) (Nat.mod_lt _ (by decide)) (Nat.lt_of_le_of_lt (Nat.div_le_self _ _) h)
def word (b : List Nat) (i : Nat) : Nat := (((b.getD (4 * i) 0 * 16777216) ||| (b.getD (4 * i + 1) 0 * 65536)) ||| (b.getD (4 * i + 2) 0 * 256)) ||| b.getD (4 * i + 3) 0
def s0 (x : Nat) : Nat := (rot x 25 ^^^ rot x 14) ^^^ x / 8
def s1 (x : Nat) : Nat := (rot x 15 ^^^ rot x 13) ^^^ x / 1024
def nextW (b : List Nat) (w : List Nat) (i : Nat) : Nat :=
  if i < 16 then word b i else ((((w.getD (i - 16) 0 + s0 (w.getD (i - 15) 0)) % M) + w.getD (i - 7) 0) % M + s1 (w.getD (i - 2) 0)) % M
def sched (b : List Nat) : Nat → List Nat
  | 0 => []
  | n + 1 => sched b n ++ [nextW b (sched b n) n]
def K : List Nat := [1116352408, 1899447441, 3049323471, 3921009573, 961987163, 1508970993, 2453635748, 2870763221, 3624381080, 310598401, 607225278, 1426881987, 1925078388, 2162078206, 2614888103, 3248222580, 3835390401, 4022224774, 264347078, 604807628, 770255983, 1249150122, 1555081692, 1996064986, 2554220882, 2821834349, 2952996808, 3210313671, 3336571891, 3584528711, 113926993, 338241895, 666307205, 773529912, 1294757372, 1396182291, 1695183700, 1986661051, 2177026350, 2456956037, 2730485921, 2820302411, 3259730800, 3345764771, 3516065817, 3600352804, 4094571909, 275423344, 430227734, 506948616, 659060556, 883997877, 958139571, 1322822218, 1537002063, 1747873779, 1955562222, 2024104815, 2227730452, 2361852424, 2428436474, 2756734187, 3204031479, 3329325298]
def S1 (e : Nat) : Nat := (rot e 26 ^^^ rot e 21) ^^^ rot e 7
def S0 (a : Nat) : Nat := (rot a 30 ^^^ rot a 19) ^^^ rot a 10
structure V where
  a : Nat
  b : Nat
  c : Nat
  d : Nat
  e : Nat
  f : Nat
  g : Nat
  h : Nat
def V.t (v : V) (k x : Nat) : Nat := ((((v.h + S1 v.e) % M + (v.g ^^^ (v.e &&& (v.f ^^^ v.g)))) % M + k) % M + x) % M
def V.u (v : V) : Nat := (S0 v.a + ((v.a &&& v.b) ||| (v.c &&& (v.a ||| v.b)))) % M
def V.next (v : V) (k x : Nat) : V := ⟨(v.t k x + v.u) % M, v.a, v.b, v.c, (v.d + v.t k x) % M, v.e, v.f, v.g⟩
def rounds (w : List Nat) (v : V) : Nat → V
  | 0 => v
  | n + 1 => (rounds w v n).next (K.getD n 0) (w.getD n 0)
def V.add (v u : V) : V := ⟨(v.a + u.a) % M, (v.b + u.b) % M, (v.c + u.c) % M, (v.d + u.d) % M, (v.e + u.e) % M, (v.f + u.f) % M, (v.g + u.g) % M, (v.h + u.h) % M⟩
def block (v : V) (b : List Nat) : V := v.add (rounds (sched b 64) v 64)
def V0 : V := ⟨1779033703, 3144134277, 1013904242, 2773480762, 1359893119, 2600822924, 528734635, 1541459225⟩
end Sha
end
section
namespace Go.Proofs.YtghcadbmjglidaaGreatDoor
set_option maxRecDepth 100000
def R256K0 : Array (Nat × Go.Operand) := #[(0, Go.Operand.const (Go.Value.int Go.IntKind.u32 1116352408)), (1, Go.Operand.const (Go.Value.int Go.IntKind.u32 1899447441)), (2, Go.Operand.const (Go.Value.int Go.IntKind.u32 3049323471)), (3, Go.Operand.const (Go.Value.int Go.IntKind.u32 3921009573)), (4, Go.Operand.const (Go.Value.int Go.IntKind.u32 961987163)), (5, Go.Operand.const (Go.Value.int Go.IntKind.u32 1508970993)), (6, Go.Operand.const (Go.Value.int Go.IntKind.u32 2453635748)), (7, Go.Operand.const (Go.Value.int Go.IntKind.u32 2870763221)), (8, Go.Operand.const (Go.Value.int Go.IntKind.u32 3624381080)), (9, Go.Operand.const (Go.Value.int Go.IntKind.u32 310598401)), (10, Go.Operand.const (Go.Value.int Go.IntKind.u32 607225278)), (11, Go.Operand.const (Go.Value.int Go.IntKind.u32 1426881987)), (12, Go.Operand.const (Go.Value.int Go.IntKind.u32 1925078388)), (13, Go.Operand.const (Go.Value.int Go.IntKind.u32 2162078206)), (14, Go.Operand.const (Go.Value.int Go.IntKind.u32 2614888103)), (15, Go.Operand.const (Go.Value.int Go.IntKind.u32 3248222580)), (16, Go.Operand.const (Go.Value.int Go.IntKind.u32 3835390401)), (17, Go.Operand.const (Go.Value.int Go.IntKind.u32 4022224774)), (18, Go.Operand.const (Go.Value.int Go.IntKind.u32 264347078)), (19, Go.Operand.const (Go.Value.int Go.IntKind.u32 604807628)), (20, Go.Operand.const (Go.Value.int Go.IntKind.u32 770255983)), (21, Go.Operand.const (Go.Value.int Go.IntKind.u32 1249150122)), (22, Go.Operand.const (Go.Value.int Go.IntKind.u32 1555081692)), (23, Go.Operand.const (Go.Value.int Go.IntKind.u32 1996064986)), (24, Go.Operand.const (Go.Value.int Go.IntKind.u32 2554220882)), (25, Go.Operand.const (Go.Value.int Go.IntKind.u32 2821834349)), (26, Go.Operand.const (Go.Value.int Go.IntKind.u32 2952996808)), (27, Go.Operand.const (Go.Value.int Go.IntKind.u32 3210313671)), (28, Go.Operand.const (Go.Value.int Go.IntKind.u32 3336571891)), (29, Go.Operand.const (Go.Value.int Go.IntKind.u32 3584528711)), (30, Go.Operand.const (Go.Value.int Go.IntKind.u32 113926993)), (31, Go.Operand.const (Go.Value.int Go.IntKind.u32 338241895)), (32, Go.Operand.const (Go.Value.int Go.IntKind.u32 666307205)), (33, Go.Operand.const (Go.Value.int Go.IntKind.u32 773529912)), (34, Go.Operand.const (Go.Value.int Go.IntKind.u32 1294757372)), (35, Go.Operand.const (Go.Value.int Go.IntKind.u32 1396182291)), (36, Go.Operand.const (Go.Value.int Go.IntKind.u32 1695183700)), (37, Go.Operand.const (Go.Value.int Go.IntKind.u32 1986661051)), (38, Go.Operand.const (Go.Value.int Go.IntKind.u32 2177026350)), (39, Go.Operand.const (Go.Value.int Go.IntKind.u32 2456956037)), (40, Go.Operand.const (Go.Value.int Go.IntKind.u32 2730485921)), (41, Go.Operand.const (Go.Value.int Go.IntKind.u32 2820302411)), (42, Go.Operand.const (Go.Value.int Go.IntKind.u32 3259730800)), (43, Go.Operand.const (Go.Value.int Go.IntKind.u32 3345764771)), (44, Go.Operand.const (Go.Value.int Go.IntKind.u32 3516065817)), (45, Go.Operand.const (Go.Value.int Go.IntKind.u32 3600352804)), (46, Go.Operand.const (Go.Value.int Go.IntKind.u32 4094571909)), (47, Go.Operand.const (Go.Value.int Go.IntKind.u32 275423344)), (48, Go.Operand.const (Go.Value.int Go.IntKind.u32 430227734)), (49, Go.Operand.const (Go.Value.int Go.IntKind.u32 506948616)), (50, Go.Operand.const (Go.Value.int Go.IntKind.u32 659060556)), (51, Go.Operand.const (Go.Value.int Go.IntKind.u32 883997877)), (52, Go.Operand.const (Go.Value.int Go.IntKind.u32 958139571)), (53, Go.Operand.const (Go.Value.int Go.IntKind.u32 1322822218)), (54, Go.Operand.const (Go.Value.int Go.IntKind.u32 1537002063)), (55, Go.Operand.const (Go.Value.int Go.IntKind.u32 1747873779)), (56, Go.Operand.const (Go.Value.int Go.IntKind.u32 1955562222)), (57, Go.Operand.const (Go.Value.int Go.IntKind.u32 2024104815)), (58, Go.Operand.const (Go.Value.int Go.IntKind.u32 2227730452)), (59, Go.Operand.const (Go.Value.int Go.IntKind.u32 2361852424)), (60, Go.Operand.const (Go.Value.int Go.IntKind.u32 2428436474)), (61, Go.Operand.const (Go.Value.int Go.IntKind.u32 2756734187)), (62, Go.Operand.const (Go.Value.int Go.IntKind.u32 3204031479)), (63, Go.Operand.const (Go.Value.int Go.IntKind.u32 3329325298))]
noncomputable def R256Body : Code := ((Code.region 0 #[⟨some 3, .box 146 (.tmp 1), 0, "digest.go:25", #[], none⟩] false).seq ((Code.region 1 #[⟨some 17, .build 210 R256K0, 210, "digest.go:26", #[], none⟩, ⟨some 4, .alloc 210, 0, "digest.go:26", #[], none⟩, ⟨none, .store 210 (.tmp 4) (.tmp 17), 0, "digest.go:26", #[⟨1, .data⟩, ⟨0, .data⟩, ⟨0, .phase⟩, ⟨1, .phase⟩], none⟩] false).seq ((Code.region 2 #[⟨some 5, .alloc 210, 0, "digest.go:36", #[], none⟩] false).seq (((Code.region 3 #[⟨some 18, .move (.const (.int .i64 0)), 3, "digest.go:37", #[], none⟩] false).seq (Code.block 0 ((Code.region 4 #[⟨some 19, .binOp .lss 3 (.tmp 18) (.const (.int .i64 64)) 3, 0, "digest.go:37", #[], none⟩] false).seq ((Code.cond (.tmp 19) Code.skip (Code.exit 0)).seq ((Code.block 1 ((Code.region 5 #[⟨some 20, .move (.tmp 18), 3, "digest.go:37", #[], none⟩, ⟨some 6, .assign (.tmp 20), 3, "digest.go:37", #[⟨0, .data⟩, ⟨0, .phase⟩], none⟩] false).seq (((Code.region 6 #[⟨some 21, .move (.tmp 6), 3, "digest.go:38", #[], none⟩, ⟨some 22, .binOp .lss 3 (.tmp 21) (.const (.int .i64 16)) 3, 4, "digest.go:38", #[⟨0, .data⟩], none⟩] false).seq (Code.cond (.tmp 22) ((Code.region 7 #[⟨some 23, .move (.tmp 6), 3, "digest.go:39", #[], none⟩, ⟨some 24, .load 146 (.tmp 3), 146, "digest.go:39", #[], none⟩, ⟨some 25, .move (.tmp 6), 3, "digest.go:39", #[], none⟩, ⟨some 26, .call { callee := .value (.func 172), args := #[.tmp 24, .tmp 25], argTypes := #[146, 3] }, 137, "digest.go:39", #[⟨1, .data⟩, ⟨2, .data⟩], none⟩, ⟨some 27, .indexAddr 210 (.tmp 5) (.tmp 23), 0, "digest.go:39", #[⟨0, .data⟩, ⟨0, .phase⟩, ⟨1, .phase⟩, ⟨2, .phase⟩, ⟨3, .phase⟩], none⟩, ⟨none, .store 137 (.tmp 27) (.tmp 26), 0, "digest.go:39", #[⟨4, .data⟩, ⟨3, .data⟩, ⟨3, .chain⟩, ⟨0, .phase⟩, ⟨1, .phase⟩, ⟨2, .phase⟩, ⟨3, .phase⟩], none⟩] false).seq (Code.exit 1)) Code.skip)).seq ((Code.region 8 #[⟨some 28, .move (.tmp 6), 3, "digest.go:42", #[], none⟩, ⟨some 29, .binOp .sub 3 (.tmp 28) (.const (.int .i64 15)) 3, 3, "digest.go:42", #[⟨0, .data⟩], none⟩, ⟨some 30, .indexAddr 210 (.tmp 5) (.tmp 29), 0, "digest.go:42", #[⟨1, .data⟩], none⟩, ⟨some 31, .load 137 (.tmp 30), 137, "digest.go:42", #[⟨2, .data⟩], none⟩, ⟨some 32, .move (.tmp 6), 3, "digest.go:42", #[{ on := 8, ground := Go.Ground.gcOnly Go.Departure.lateStores }], none⟩, ⟨some 33, .binOp .sub 3 (.tmp 32) (.const (.int .i64 2)) 3, 3, "digest.go:42", #[⟨4, .data⟩, { on := 8, ground := Go.Ground.gcOnly Go.Departure.lateStores }], none⟩, ⟨some 34, .indexAddr 210 (.tmp 5) (.tmp 33), 0, "digest.go:42", #[⟨5, .data⟩, { on := 8, ground := Go.Ground.gcOnly Go.Departure.lateStores }], none⟩, ⟨some 35, .load 137 (.tmp 34), 137, "digest.go:42", #[⟨6, .data⟩, { on := 8, ground := Go.Ground.gcOnly Go.Departure.lateStores }], none⟩, ⟨some 7, .assign (.tmp 31), 137, "digest.go:42", #[⟨3, .data⟩, ⟨0, .phase⟩, ⟨1, .phase⟩, ⟨2, .phase⟩, ⟨3, .phase⟩, { on := 4, ground := Go.Ground.textOnly Go.Departure.lateStores }, { on := 5, ground := Go.Ground.textOnly Go.Departure.lateStores }, { on := 6, ground := Go.Ground.textOnly Go.Departure.lateStores }, { on := 7, ground := Go.Ground.textOnly Go.Departure.lateStores }], none⟩, ⟨some 8, .assign (.tmp 35), 137, "digest.go:42", #[⟨7, .data⟩, ⟨8, .chain⟩, ⟨0, .phase⟩, ⟨1, .phase⟩, ⟨2, .phase⟩, ⟨3, .phase⟩, ⟨4, .phase⟩, ⟨5, .phase⟩, ⟨6, .phase⟩, ⟨7, .phase⟩, ⟨8, .phase⟩], none⟩] true).seq (Code.region 9 #[⟨some 36, .move (.tmp 6), 3, "digest.go:43", #[], none⟩, ⟨some 37, .move (.tmp 6), 3, "digest.go:43", #[], none⟩, ⟨some 38, .binOp .sub 3 (.tmp 37) (.const (.int .i64 16)) 3, 3, "digest.go:43", #[⟨1, .data⟩], none⟩, ⟨some 39, .indexAddr 210 (.tmp 5) (.tmp 38), 0, "digest.go:43", #[⟨2, .data⟩], none⟩, ⟨some 40, .load 137 (.tmp 39), 137, "digest.go:43", #[⟨3, .data⟩], none⟩, ⟨some 41, .move (.tmp 7), 137, "digest.go:43", #[], none⟩, ⟨some 42, .call { callee := .value (.func 173), args := #[.tmp 41, .const (.int .i64 (-7))], argTypes := #[137, 3] }, 137, "digest.go:43", #[⟨5, .data⟩], none⟩, ⟨some 43, .move (.tmp 7), 137, "digest.go:43", #[], none⟩, ⟨some 44, .call { callee := .value (.func 173), args := #[.tmp 43, .const (.int .i64 (-18))], argTypes := #[137, 3] }, 137, "digest.go:43", #[⟨7, .data⟩, ⟨6, .chain⟩], none⟩, ⟨some 45, .binOp .xor 137 (.tmp 42) (.tmp 44) 137, 137, "digest.go:43", #[⟨6, .data⟩, ⟨8, .data⟩], none⟩, ⟨some 46, .move (.tmp 7), 137, "digest.go:43", #[], none⟩, ⟨some 47, .binOp .shr 137 (.tmp 46) (.const (.int .u64 3)) 102, 137, "digest.go:43", #[⟨10, .data⟩], none⟩, ⟨some 48, .binOp .xor 137 (.tmp 45) (.tmp 47) 137, 137, "digest.go:43", #[⟨9, .data⟩, ⟨11, .data⟩], none⟩, ⟨some 49, .binOp .add 137 (.tmp 40) (.tmp 48) 137, 137, "digest.go:43", #[⟨4, .data⟩, ⟨12, .data⟩], none⟩, ⟨some 50, .move (.tmp 6), 3, "digest.go:43", #[], none⟩, ⟨some 51, .binOp .sub 3 (.tmp 50) (.const (.int .i64 7)) 3, 3, "digest.go:43", #[⟨14, .data⟩], none⟩, ⟨some 52, .indexAddr 210 (.tmp 5) (.tmp 51), 0, "digest.go:43", #[⟨15, .data⟩], none⟩, ⟨some 53, .load 137 (.tmp 52), 137, "digest.go:43", #[⟨16, .data⟩], none⟩, ⟨some 54, .binOp .add 137 (.tmp 49) (.tmp 53) 137, 137, "digest.go:43", #[⟨13, .data⟩, ⟨17, .data⟩], none⟩, ⟨some 55, .move (.tmp 8), 137, "digest.go:43", #[], none⟩, ⟨some 56, .call { callee := .value (.func 173), args := #[.tmp 55, .const (.int .i64 (-17))], argTypes := #[137, 3] }, 137, "digest.go:43", #[⟨19, .data⟩, ⟨8, .chain⟩], none⟩, ⟨some 57, .move (.tmp 8), 137, "digest.go:43", #[], none⟩, ⟨some 58, .call { callee := .value (.func 173), args := #[.tmp 57, .const (.int .i64 (-19))], argTypes := #[137, 3] }, 137, "digest.go:43", #[⟨21, .data⟩, ⟨20, .chain⟩], none⟩, ⟨some 59, .binOp .xor 137 (.tmp 56) (.tmp 58) 137, 137, "digest.go:43", #[⟨20, .data⟩, ⟨22, .data⟩], none⟩, ⟨some 60, .move (.tmp 8), 137, "digest.go:43", #[], none⟩, ⟨some 61, .binOp .shr 137 (.tmp 60) (.const (.int .u64 10)) 102, 137, "digest.go:43", #[⟨24, .data⟩], none⟩, ⟨some 62, .binOp .xor 137 (.tmp 59) (.tmp 61) 137, 137, "digest.go:43", #[⟨23, .data⟩, ⟨25, .data⟩], none⟩, ⟨some 63, .binOp .add 137 (.tmp 54) (.tmp 62) 137, 137, "digest.go:43", #[⟨18, .data⟩, ⟨26, .data⟩], none⟩, ⟨some 64, .indexAddr 210 (.tmp 5) (.tmp 36), 0, "digest.go:43", #[⟨0, .data⟩, ⟨0, .phase⟩, ⟨1, .phase⟩, ⟨2, .phase⟩, ⟨3, .phase⟩, ⟨4, .phase⟩, ⟨5, .phase⟩, ⟨6, .phase⟩, ⟨7, .phase⟩, ⟨8, .phase⟩, ⟨9, .phase⟩, ⟨10, .phase⟩, ⟨11, .phase⟩, ⟨12, .phase⟩, ⟨13, .phase⟩, ⟨14, .phase⟩, ⟨15, .phase⟩, ⟨16, .phase⟩, ⟨17, .phase⟩, ⟨18, .phase⟩, ⟨19, .phase⟩, ⟨20, .phase⟩, ⟨21, .phase⟩, ⟨22, .phase⟩, ⟨23, .phase⟩, ⟨24, .phase⟩, ⟨25, .phase⟩, ⟨26, .phase⟩, ⟨27, .phase⟩], none⟩, ⟨none, .store 137 (.tmp 64) (.tmp 63), 0, "digest.go:43", #[⟨28, .data⟩, ⟨27, .data⟩, ⟨22, .chain⟩, ⟨0, .phase⟩, ⟨1, .phase⟩, ⟨2, .phase⟩, ⟨3, .phase⟩, ⟨4, .phase⟩, ⟨5, .phase⟩, ⟨6, .phase⟩, ⟨7, .phase⟩, ⟨8, .phase⟩, ⟨9, .phase⟩, ⟨10, .phase⟩, ⟨11, .phase⟩, ⟨12, .phase⟩, ⟨13, .phase⟩, ⟨14, .phase⟩, ⟨15, .phase⟩, ⟨16, .phase⟩, ⟨17, .phase⟩, ⟨18, .phase⟩, ⟨19, .phase⟩, ⟨20, .phase⟩, ⟨21, .phase⟩, ⟨22, .phase⟩, ⟨23, .phase⟩, ⟨24, .phase⟩, ⟨25, .phase⟩, ⟨26, .phase⟩, ⟨27, .phase⟩], none⟩] true))))).seq (Code.region 10 #[⟨some 65, .binOp .add 3 (.tmp 18) (.const (.int .i64 1)) 3, 3, "digest.go:37", #[], none⟩, ⟨some 18, .move (.tmp 65), 3, "digest.go:37", #[⟨0, .data⟩], none⟩] false)))).loop)).seq ((Code.region 11 #[⟨some 66, .move (.tmp 0), 191, "digest.go:45", #[], none⟩, ⟨some 67, .nilCheck (.tmp 66), 0, "digest.go:45", #[⟨0, .data⟩], none⟩, ⟨some 68, .load 145 (.tmp 67), 145, "digest.go:45", #[⟨1, .data⟩], none⟩, ⟨some 9, .alloc 145, 0, "digest.go:45", #[], none⟩, ⟨none, .store 145 (.tmp 9) (.tmp 68), 0, "digest.go:45", #[⟨3, .data⟩, ⟨2, .data⟩, ⟨0, .phase⟩, ⟨1, .phase⟩, ⟨2, .phase⟩, ⟨3, .phase⟩], none⟩] false).seq (((Code.region 12 #[⟨some 69, .load 210 (.tmp 5), 210, "digest.go:46", #[], none⟩, ⟨some 70, .move (.const (.int .i64 0)), 3, "digest.go:46", #[], none⟩] false).seq (Code.block 2 ((Code.region 13 #[⟨some 71, .binOp .lss 3 (.tmp 70) (.const (.int .i64 64)) 3, 0, "digest.go:46", #[], none⟩] false).seq ((Code.cond (.tmp 71) Code.skip (Code.exit 2)).seq ((Code.block 3 ((Code.region 14 #[⟨some 72, .move (.tmp 70), 3, "digest.go:46", #[], none⟩, ⟨some 73, .index 210 (.tmp 69) (.tmp 70), 137, "digest.go:46", #[], none⟩, ⟨some 10, .assign (.tmp 72), 3, "digest.go:46", #[⟨0, .data⟩, ⟨0, .phase⟩, ⟨1, .phase⟩], none⟩, ⟨some 11, .assign (.tmp 73), 137, "digest.go:46", #[⟨1, .data⟩, ⟨2, .chain⟩, ⟨0, .phase⟩, ⟨1, .phase⟩, ⟨2, .phase⟩], none⟩] false).seq ((Code.region 15 #[⟨some 74, .indexAddr 145 (.tmp 9) (.const (.int .i64 0)), 0, "digest.go:47", #[], none⟩, ⟨some 75, .load 137 (.tmp 74), 137, "digest.go:47", #[⟨0, .data⟩], none⟩, ⟨some 76, .indexAddr 145 (.tmp 9) (.const (.int .i64 4)), 0, "digest.go:47", #[{ on := 4, ground := Go.Ground.gcOnly Go.Departure.lateStores }], none⟩, ⟨some 77, .load 137 (.tmp 76), 137, "digest.go:47", #[⟨2, .data⟩, { on := 4, ground := Go.Ground.gcOnly Go.Departure.lateStores }], none⟩, ⟨some 12, .assign (.tmp 75), 137, "digest.go:47", #[⟨1, .data⟩, ⟨0, .phase⟩, ⟨1, .phase⟩, { on := 2, ground := Go.Ground.textOnly Go.Departure.lateStores }, { on := 3, ground := Go.Ground.textOnly Go.Departure.lateStores }], none⟩, ⟨some 13, .assign (.tmp 77), 137, "digest.go:47", #[⟨3, .data⟩, ⟨4, .chain⟩, ⟨0, .phase⟩, ⟨1, .phase⟩, ⟨2, .phase⟩, ⟨3, .phase⟩, ⟨4, .phase⟩], none⟩] true).seq ((Code.region 16 #[⟨some 78, .indexAddr 145 (.tmp 9) (.const (.int .i64 7)), 0, "digest.go:48", #[], none⟩, ⟨some 79, .load 137 (.tmp 78), 137, "digest.go:48", #[⟨0, .data⟩], none⟩, ⟨some 80, .move (.tmp 13), 137, "digest.go:48", #[], none⟩, ⟨some 81, .call { callee := .value (.func 173), args := #[.tmp 80, .const (.int .i64 (-6))], argTypes := #[137, 3] }, 137, "digest.go:48", #[⟨2, .data⟩], none⟩, ⟨some 82, .move (.tmp 13), 137, "digest.go:48", #[], none⟩, ⟨some 83, .call { callee := .value (.func 173), args := #[.tmp 82, .const (.int .i64 (-11))], argTypes := #[137, 3] }, 137, "digest.go:48", #[⟨4, .data⟩, ⟨3, .chain⟩], none⟩, ⟨some 84, .binOp .xor 137 (.tmp 81) (.tmp 83) 137, 137, "digest.go:48", #[⟨3, .data⟩, ⟨5, .data⟩], none⟩, ⟨some 85, .move (.tmp 13), 137, "digest.go:48", #[], none⟩, ⟨some 86, .call { callee := .value (.func 173), args := #[.tmp 85, .const (.int .i64 (-25))], argTypes := #[137, 3] }, 137, "digest.go:48", #[⟨7, .data⟩, ⟨5, .chain⟩], none⟩, ⟨some 87, .binOp .xor 137 (.tmp 84) (.tmp 86) 137, 137, "digest.go:48", #[⟨6, .data⟩, ⟨8, .data⟩], none⟩, ⟨some 88, .binOp .add 137 (.tmp 79) (.tmp 87) 137, 137, "digest.go:48", #[⟨1, .data⟩, ⟨9, .data⟩], none⟩, ⟨some 89, .indexAddr 145 (.tmp 9) (.const (.int .i64 6)), 0, "digest.go:48", #[], none⟩, ⟨some 90, .load 137 (.tmp 89), 137, "digest.go:48", #[⟨11, .data⟩], none⟩, ⟨some 91, .move (.tmp 13), 137, "digest.go:48", #[], none⟩, ⟨some 92, .indexAddr 145 (.tmp 9) (.const (.int .i64 5)), 0, "digest.go:48", #[], none⟩, ⟨some 93, .load 137 (.tmp 92), 137, "digest.go:48", #[⟨14, .data⟩], none⟩, ⟨some 94, .indexAddr 145 (.tmp 9) (.const (.int .i64 6)), 0, "digest.go:48", #[], none⟩, ⟨some 95, .load 137 (.tmp 94), 137, "digest.go:48", #[⟨16, .data⟩], none⟩, ⟨some 96, .binOp .xor 137 (.tmp 93) (.tmp 95) 137, 137, "digest.go:48", #[⟨15, .data⟩, ⟨17, .data⟩], none⟩, ⟨some 97, .binOp .and 137 (.tmp 91) (.tmp 96) 137, 137, "digest.go:48", #[⟨13, .data⟩, ⟨18, .data⟩], none⟩, ⟨some 98, .binOp .xor 137 (.tmp 90) (.tmp 97) 137, 137, "digest.go:48", #[⟨12, .data⟩, ⟨19, .data⟩], none⟩, ⟨some 99, .binOp .add 137 (.tmp 88) (.tmp 98) 137, 137, "digest.go:48", #[⟨10, .data⟩, ⟨20, .data⟩], none⟩, ⟨some 100, .move (.tmp 10), 3, "digest.go:48", #[], none⟩, ⟨some 101, .indexAddr 210 (.tmp 4) (.tmp 100), 0, "digest.go:48", #[⟨22, .data⟩], none⟩, ⟨some 102, .load 137 (.tmp 101), 137, "digest.go:48", #[⟨23, .data⟩], none⟩, ⟨some 103, .binOp .add 137 (.tmp 99) (.tmp 102) 137, 137, "digest.go:48", #[⟨21, .data⟩, ⟨24, .data⟩], none⟩, ⟨some 104, .move (.tmp 11), 137, "digest.go:48", #[], none⟩, ⟨some 105, .binOp .add 137 (.tmp 103) (.tmp 104) 137, 137, "digest.go:48", #[⟨25, .data⟩, ⟨26, .data⟩], none⟩, ⟨some 14, .assign (.tmp 105), 137, "digest.go:48", #[⟨27, .data⟩, ⟨8, .chain⟩, ⟨0, .phase⟩, ⟨1, .phase⟩, ⟨2, .phase⟩, ⟨3, .phase⟩, ⟨4, .phase⟩, ⟨5, .phase⟩, ⟨6, .phase⟩, ⟨7, .phase⟩, ⟨8, .phase⟩, ⟨9, .phase⟩, ⟨10, .phase⟩, ⟨11, .phase⟩, ⟨12, .phase⟩, ⟨13, .phase⟩, ⟨14, .phase⟩, ⟨15, .phase⟩, ⟨16, .phase⟩, ⟨17, .phase⟩, ⟨18, .phase⟩, ⟨19, .phase⟩, ⟨20, .phase⟩, ⟨21, .phase⟩, ⟨22, .phase⟩, ⟨23, .phase⟩, ⟨24, .phase⟩, ⟨25, .phase⟩, ⟨26, .phase⟩, ⟨27, .phase⟩], none⟩] true).seq ((Code.region 17 #[⟨some 106, .move (.tmp 12), 137, "digest.go:49", #[], none⟩, ⟨some 107, .call { callee := .value (.func 173), args := #[.tmp 106, .const (.int .i64 (-2))], argTypes := #[137, 3] }, 137, "digest.go:49", #[⟨0, .data⟩], none⟩, ⟨some 108, .move (.tmp 12), 137, "digest.go:49", #[], none⟩, ⟨some 109, .call { callee := .value (.func 173), args := #[.tmp 108, .const (.int .i64 (-13))], argTypes := #[137, 3] }, 137, "digest.go:49", #[⟨2, .data⟩, ⟨1, .chain⟩], none⟩, ⟨some 110, .binOp .xor 137 (.tmp 107) (.tmp 109) 137, 137, "digest.go:49", #[⟨1, .data⟩, ⟨3, .data⟩], none⟩, ⟨some 111, .move (.tmp 12), 137, "digest.go:49", #[], none⟩, ⟨some 112, .call { callee := .value (.func 173), args := #[.tmp 111, .const (.int .i64 (-22))], argTypes := #[137, 3] }, 137, "digest.go:49", #[⟨5, .data⟩, ⟨3, .chain⟩], none⟩, ⟨some 113, .binOp .xor 137 (.tmp 110) (.tmp 112) 137, 137, "digest.go:49", #[⟨4, .data⟩, ⟨6, .data⟩], none⟩, ⟨some 114, .move (.tmp 12), 137, "digest.go:49", #[], none⟩, ⟨some 115, .indexAddr 145 (.tmp 9) (.const (.int .i64 1)), 0, "digest.go:49", #[], none⟩, ⟨some 116, .load 137 (.tmp 115), 137, "digest.go:49", #[⟨9, .data⟩], none⟩, ⟨some 117, .binOp .and 137 (.tmp 114) (.tmp 116) 137, 137, "digest.go:49", #[⟨8, .data⟩, ⟨10, .data⟩], none⟩, ⟨some 118, .indexAddr 145 (.tmp 9) (.const (.int .i64 2)), 0, "digest.go:49", #[], none⟩, ⟨some 119, .load 137 (.tmp 118), 137, "digest.go:49", #[⟨12, .data⟩], none⟩, ⟨some 120, .move (.tmp 12), 137, "digest.go:49", #[], none⟩, ⟨some 121, .indexAddr 145 (.tmp 9) (.const (.int .i64 1)), 0, "digest.go:49", #[], none⟩, ⟨some 122, .load 137 (.tmp 121), 137, "digest.go:49", #[⟨15, .data⟩], none⟩, ⟨some 123, .binOp .or 137 (.tmp 120) (.tmp 122) 137, 137, "digest.go:49", #[⟨14, .data⟩, ⟨16, .data⟩], none⟩, ⟨some 124, .binOp .and 137 (.tmp 119) (.tmp 123) 137, 137, "digest.go:49", #[⟨13, .data⟩, ⟨17, .data⟩], none⟩, ⟨some 125, .binOp .or 137 (.tmp 117) (.tmp 124) 137, 137, "digest.go:49", #[⟨11, .data⟩, ⟨18, .data⟩], none⟩, ⟨some 126, .binOp .add 137 (.tmp 113) (.tmp 125) 137, 137, "digest.go:49", #[⟨7, .data⟩, ⟨19, .data⟩], none⟩, ⟨some 15, .assign (.tmp 126), 137, "digest.go:49", #[⟨20, .data⟩, ⟨6, .chain⟩, ⟨0, .phase⟩, ⟨1, .phase⟩, ⟨2, .phase⟩, ⟨3, .phase⟩, ⟨4, .phase⟩, ⟨5, .phase⟩, ⟨6, .phase⟩, ⟨7, .phase⟩, ⟨8, .phase⟩, ⟨9, .phase⟩, ⟨10, .phase⟩, ⟨11, .phase⟩, ⟨12, .phase⟩, ⟨13, .phase⟩, ⟨14, .phase⟩, ⟨15, .phase⟩, ⟨16, .phase⟩, ⟨17, .phase⟩, ⟨18, .phase⟩, ⟨19, .phase⟩, ⟨20, .phase⟩], none⟩] true).seq (Code.region 18 #[⟨some 127, .move (.tmp 14), 137, "digest.go:50", #[], none⟩, ⟨some 128, .move (.tmp 15), 137, "digest.go:50", #[], none⟩, ⟨some 129, .binOp .add 137 (.tmp 127) (.tmp 128) 137, 137, "digest.go:50", #[⟨0, .data⟩, ⟨1, .data⟩], none⟩, ⟨some 130, .indexAddr 145 (.tmp 9) (.const (.int .i64 0)), 0, "digest.go:50", #[], none⟩, ⟨some 131, .load 137 (.tmp 130), 137, "digest.go:50", #[⟨3, .data⟩], none⟩, ⟨some 132, .indexAddr 145 (.tmp 9) (.const (.int .i64 1)), 0, "digest.go:50", #[], none⟩, ⟨some 133, .load 137 (.tmp 132), 137, "digest.go:50", #[⟨5, .data⟩], none⟩, ⟨some 134, .indexAddr 145 (.tmp 9) (.const (.int .i64 2)), 0, "digest.go:50", #[], none⟩, ⟨some 135, .load 137 (.tmp 134), 137, "digest.go:50", #[⟨7, .data⟩], none⟩, ⟨some 136, .indexAddr 145 (.tmp 9) (.const (.int .i64 3)), 0, "digest.go:50", #[], none⟩, ⟨some 137, .load 137 (.tmp 136), 137, "digest.go:50", #[⟨9, .data⟩], none⟩, ⟨some 138, .move (.tmp 14), 137, "digest.go:50", #[], none⟩, ⟨some 139, .binOp .add 137 (.tmp 137) (.tmp 138) 137, 137, "digest.go:50", #[⟨10, .data⟩, ⟨11, .data⟩], none⟩, ⟨some 140, .indexAddr 145 (.tmp 9) (.const (.int .i64 4)), 0, "digest.go:50", #[], none⟩, ⟨some 141, .load 137 (.tmp 140), 137, "digest.go:50", #[⟨13, .data⟩], none⟩, ⟨some 142, .indexAddr 145 (.tmp 9) (.const (.int .i64 5)), 0, "digest.go:50", #[], none⟩, ⟨some 143, .load 137 (.tmp 142), 137, "digest.go:50", #[⟨15, .data⟩], none⟩, ⟨some 144, .indexAddr 145 (.tmp 9) (.const (.int .i64 6)), 0, "digest.go:50", #[], none⟩, ⟨some 145, .load 137 (.tmp 144), 137, "digest.go:50", #[⟨17, .data⟩], none⟩, ⟨some 146, .build 145 #[(0, .tmp 129), (1, .tmp 131), (2, .tmp 133), (3, .tmp 135), (4, .tmp 139), (5, .tmp 141), (6, .tmp 143), (7, .tmp 145)], 145, "digest.go:50", #[⟨2, .data⟩, ⟨4, .data⟩, ⟨6, .data⟩, ⟨8, .data⟩, ⟨12, .data⟩, ⟨14, .data⟩, ⟨16, .data⟩, ⟨18, .data⟩], none⟩, ⟨none, .store 145 (.tmp 9) (.tmp 146), 0, "digest.go:50", #[⟨19, .data⟩, ⟨0, .phase⟩, ⟨1, .phase⟩, ⟨2, .phase⟩, ⟨3, .phase⟩, ⟨4, .phase⟩, ⟨5, .phase⟩, ⟨6, .phase⟩, ⟨7, .phase⟩, ⟨8, .phase⟩, ⟨9, .phase⟩, ⟨10, .phase⟩, ⟨11, .phase⟩, ⟨12, .phase⟩, ⟨13, .phase⟩, ⟨14, .phase⟩, ⟨15, .phase⟩, ⟨16, .phase⟩, ⟨17, .phase⟩, ⟨18, .phase⟩, ⟨19, .phase⟩], none⟩] false)))))).seq (Code.region 19 #[⟨some 147, .binOp .add 3 (.tmp 70) (.const (.int .i64 1)) 3, 3, "digest.go:46", #[], none⟩, ⟨some 70, .move (.tmp 147), 3, "digest.go:46", #[⟨0, .data⟩], none⟩] false)))).loop)).seq ((Code.region 20 #[⟨some 148, .move (.const (.int .i64 0)), 3, "digest.go:52", #[], none⟩] false).seq (Code.block 4 ((Code.region 21 #[⟨some 149, .binOp .lss 3 (.tmp 148) (.const (.int .i64 8)) 3, 0, "digest.go:52", #[], none⟩] false).seq ((Code.cond (.tmp 149) Code.skip (Code.exit 4)).seq ((Code.block 5 ((Code.region 22 #[⟨some 150, .move (.tmp 148), 3, "digest.go:52", #[], none⟩, ⟨some 16, .assign (.tmp 150), 3, "digest.go:52", #[⟨0, .data⟩, ⟨0, .phase⟩], none⟩] false).seq (Code.region 23 #[⟨some 151, .move (.tmp 0), 191, "digest.go:53", #[], none⟩, ⟨some 152, .move (.tmp 16), 3, "digest.go:53", #[], none⟩, ⟨some 153, .nilCheck (.tmp 151), 0, "digest.go:53", #[⟨0, .data⟩], none⟩, ⟨some 154, .indexAddr 145 (.tmp 153) (.tmp 152), 0, "digest.go:53", #[⟨2, .data⟩, ⟨1, .data⟩], none⟩, ⟨some 155, .load 137 (.tmp 154), 137, "digest.go:53", #[⟨3, .data⟩], none⟩, ⟨some 156, .move (.tmp 16), 3, "digest.go:53", #[], none⟩, ⟨some 157, .indexAddr 145 (.tmp 9) (.tmp 156), 0, "digest.go:53", #[⟨5, .data⟩], none⟩, ⟨some 158, .load 137 (.tmp 157), 137, "digest.go:53", #[⟨6, .data⟩], none⟩, ⟨some 159, .binOp .add 137 (.tmp 155) (.tmp 158) 137, 137, "digest.go:53", #[⟨4, .data⟩, ⟨7, .data⟩], none⟩, ⟨some 160, .nilCheck (.tmp 151), 0, "digest.go:53", #[⟨0, .data⟩], none⟩, ⟨some 161, .indexAddr 145 (.tmp 160) (.tmp 152), 0, "digest.go:53", #[⟨9, .data⟩, ⟨1, .data⟩, ⟨0, .phase⟩, ⟨1, .phase⟩, ⟨2, .phase⟩, ⟨3, .phase⟩, ⟨4, .phase⟩, ⟨5, .phase⟩, ⟨6, .phase⟩, ⟨7, .phase⟩, ⟨8, .phase⟩], none⟩, ⟨none, .store 137 (.tmp 161) (.tmp 159), 0, "digest.go:53", #[⟨10, .data⟩, ⟨8, .data⟩, ⟨0, .phase⟩, ⟨1, .phase⟩, ⟨2, .phase⟩, ⟨3, .phase⟩, ⟨4, .phase⟩, ⟨5, .phase⟩, ⟨6, .phase⟩, ⟨7, .phase⟩, ⟨8, .phase⟩], none⟩] true))).seq (Code.region 24 #[⟨some 162, .binOp .add 3 (.tmp 148) (.const (.int .i64 1)) 3, 3, "digest.go:52", #[], none⟩, ⟨some 148, .move (.tmp 162), 3, "digest.go:52", #[⟨0, .data⟩], none⟩] false)))).loop))))))))
theorem R256_body : Tryz.f153.body = some R256Body := by kernel_rfl
end Go.Proofs.YtghcadbmjglidaaGreatDoor
end
section
set_option linter.unusedVariables false
namespace Go.Proofs.YtghcadbmjglidaaGreatDoor
section
variable {P : Program} {ops : Array Oper} {md : Region.Mode} {C : World → Prop}
def wpAnyT (P : Program) (md : Region.Mode) (ops : Array Oper) (C : World → Prop) (n : Nat) (L : Array Bool → Act → Prop) : Nat → Array Bool → Act → Prop
  | 0, listed, a => L listed a
  | f + 1, listed, a =>
    Region.ready md ops listed ≠ [] ∧ ∀ i ∈ Region.ready md ops listed, i < n ∧ qOp P ops C i (wpAnyT P md ops C n L f (listed.setIfInBounds i true)) a
theorem wpAny_of_headT {n g : Nat} {L : Array Bool → Act → Prop} {Q' : Exit → Act → World → Prop} (hL : ∀ listed a w, C w → L listed a → wpAny P md ops Q' g listed a w) :
    ∀ (f : Nat) (listed : Array Bool) (a : Act) (w : World), C w → wpAnyT P md ops C n L f listed a → wpAny P md ops Q' (f + g) listed a w
  | 0, listed, a, w, hw, h => by rw [Nat.zero_add]; exact hL _ _ _ hw h
  | f + 1, listed, a, w, hw, h => by
    rw [show f + 1 + g = (f + g) + 1 by omega]
    exact ⟨fun h0 => absurd h0 h.1, fun i hi => wpOp_of_qOp hw (fun a' w' hw' h' => wpAny_of_headT hL f _ a' w' hw' h') (h.2 i hi).2⟩
theorem wpAnyT_first {n i : Nat} {oi : Oper} {v : Value} {L : Array Bool → Act → Prop} (hi : ops[i]? = some oi) (hsel : ∀ (j : Nat) (o : Oper) cs b, ops[j]? = some o → o.op ≠ .select cs b)
    (hs : Region.sinkB md ops n = true) (hc : Region.chainB md ops n = true) (hn : n < ops.size) (hin : i < n)
    (hdone : ∀ listed a, L listed a → ∀ j ∈ Region.ready md ops listed, n ≤ j) :
    ∀ (f : Nat) (listed : Array Bool) (a : Act), HeadInv md ops n listed →
      (∀ j oj, ops[j]? = some oj → j ≠ i → listed.getD j true = false → (∀ e ∈ oj.after, Region.binds md e = true → e.on ≠ i) → oi.apart ops oj = true) →
      i ∈ Region.ready md ops listed → YieldsIn P ops C oi v a →
      wpAnyT P md ops C n L f (listed.setIfInBounds i true) (a.put oi.dst v) → wpAnyT P md ops C n L (f + 1) listed a := by
  intro f
  induction f with
  | zero =>
    intro listed a inv _ hr hy H
    have hun := (mem_ready.1 hr).1
    refine ⟨fun h => (by rw [h] at hr; cases hr), fun j hj => ?_⟩
    have hjn : j < n := by
      rcases Nat.lt_or_ge j n with h | h
      · exact h
      · exact absurd hj (tail_waits hs hc hn inv _ i rfl hin hun j h)
    refine ⟨hjn, ?_⟩
    by_cases hji : j = i
    · subst hji; exact hy.qOp hi H
    · have := hdone _ _ H j (ready_mono hj hji)
      omega
  | succ f ih =>
    intro listed a inv hfree hr hy H
    have hun := (mem_ready.1 hr).1
    refine ⟨fun h => (by rw [h] at hr; cases hr), fun j hj => ?_⟩
    have hjn : j < n := by
      rcases Nat.lt_or_ge j n with h | h
      · exact h
      · exact absurd hj (tail_waits hs hc hn inv _ i rfl hin hun j h)
    refine ⟨hjn, ?_⟩
    by_cases hji : j = i
    · subst hji; exact hy.qOp hi H
    · have h1 := (H.2 j (ready_mono hj hji)).2
      obtain ⟨hjun, oj, hoj, hall⟩ := mem_ready.1 hj
      have hnot : ∀ e ∈ oj.after, Region.binds md e = true → e.on ≠ i := fun e he hb heq => by
        have h1 := hall e he hb
        rw [heq, getD_both hun] at h1
        cases h1
      have h2 := qOp_put hoj (hfree j oj hoj hji hjun hnot) (fun cs b => hsel i oi cs b hi) (fun cs b => hsel j oj cs b hoj) hy h1
      have hfree' : ∀ k ok, ops[k]? = some ok → k ≠ i → (listed.setIfInBounds j true).getD k true = false →
          (∀ e ∈ ok.after, Region.binds md e = true → e.on ≠ i) → oi.apart ops ok = true := fun k ok hk hki hun hno => by
        refine hfree k ok hk hki ?_ hno
        by_cases hjk : j = k
        · subst hjk; exact hjun
        · rw [getD_set_ne true hjk] at hun; exact hun
      refine qOp_mono (fun a' h3 => ih (listed.setIfInBounds j true) a' (inv.set hj hjn) hfree' (ready_mono hr (Ne.symm hji)) h3.1 ?_) h2
      rw [Array.setIfInBounds_comm _ _ hji]
      exact h3.2
theorem wpAnyT_lex {n g : Nat} {Lq : Act → Prop} (hsel : Region.noSelect ops = true) (hs : Region.sinkB md ops n = true) (hc : Region.chainB md ops n = true) (hn : n < ops.size) :
    ∀ (l : List Oper) (k : Nat) (listed : Array Bool) (a : Act), (∀ j, j < l.length → l[j]? = ops[k + j]?) → k + l.length = n → HeadInv md ops n listed →
    Region.lexHead md ops g l.length k listed = true → wpQuiet P ops C Lq l a →
    wpAnyT P md ops C n (fun listed' a' => Region.seqB md ops g n listed' = true ∧ Lq a') l.length listed a
  | [], k, listed, a, _, hk, _, hB, h => by
    have : k = n := by simpa using hk
    subst this
    exact ⟨by simpa [Region.lexHead] using hB, h⟩
  | o :: l, k, listed, a, hl, hk, inv, hB, h => by
    have h0 : ops[k]? = some o := by simpa using (hl 0 (by simp)).symm
    simp only [List.length_cons, Region.lexHead, Bool.and_eq_true] at hB
    obtain ⟨⟨hr, hf⟩, hB'⟩ := hB
    have hkn : k < n := by simp only [List.length_cons] at hk; omega
    have hr' : k ∈ Region.ready md ops listed := by simpa using hr
    have hst : qOp P ops C k (wpQuiet P ops C Lq l) a := by unfold qOp; simp only [h0]; exact h
    obtain ⟨v, hy, hK⟩ := yieldsIn_of_qOp h0 hst
    exact wpAnyT_first h0 (Region.noSelect_spec hsel) hs hc hn hkn (fun listed' a' hL => seqB_ready hL.1) l.length listed a inv (Region.free_spec h0 hf) hr' hy
      (wpAnyT_lex hsel hs hc hn l (k + 1) _ _ (fun j hj => by have := hl (j + 1) (by simp; omega); simpa [Nat.add_assoc, Nat.add_comm 1 j] using this) (by simp only [List.length_cons] at hk; omega) (inv.set hr' hkn) hB' hK)
theorem wp_region_quiet_tail {id : Nat} {Q : Exit → Act → World → Prop} {a : Act} {w : World} {l : List Oper} (n : Nat) (hm : P.follows .mixedOrders = true) (hB : Region.lexTailB .any l.toArray n = true)
    (h : wpQuiet P l.toArray (fun w' => ∃ n, w' = w.drewN n) (fun a' => ∀ w', (∃ n, w' = w.drewN n) → wpList P l.toArray Q (l.drop n) a' w') (l.take n) a) : (Code.region id l.toArray true).wp P Q a w := by
  simp only [Region.lexTailB, Bool.and_eq_true, decide_eq_true_eq] at hB
  obtain ⟨⟨⟨⟨hsel, hn⟩, hs⟩, hc⟩, hlex⟩ := hB
  have hn' : n < l.length := by simpa using hn
  have htl : (l.take n).length = n := by simp; omega
  have hdl : (l.drop n).length = l.toArray.size - n := by simp
  have inv0 : HeadInv .any l.toArray n (Array.replicate l.toArray.size false) :=
    ⟨by simp, fun j oj _ hl => (by rw [getD_replicate_false] at hl; cases hl), fun t _ ht => getD_in (by simpa using ht) (getD_replicate_false _ _)⟩
  have H := wpAnyT_lex (md := .any) (g := l.toArray.size - n) hsel hs hc hn (l.take n) 0 _ a (fun j hj => by
    have hj' : j < n := by rw [htl] at hj; exact hj
    simp [hj']) (by simpa using htl) inv0 (by rw [htl]; exact hlex) h
  refine wp_region_any hm ?_
  have := wpAny_of_headT (C := fun w' => ∃ n, w' = w.drewN n) (Q' := Q) (g := l.toArray.size - n) (fun listed a' w' hw' hL => by
    have := wpAny_of_seq (md := .any) (Q' := Q) (l.drop n) n listed a' w' (fun j => by simp [List.getElem?_drop]) (by rw [hdl]; exact hL.1) (hL.2 w' hw')
    rwa [hdl] at this) _ _ _ { w with drawn := w.drawn + 1 } ⟨1, rfl⟩ H
  rw [htl, show n + (l.toArray.size - n) = l.toArray.size by omega] at this
  exact this
end
end Go.Proofs.YtghcadbmjglidaaGreatDoor
end
section
set_option linter.unusedVariables false
namespace Go.Proofs.YtghcadbmjglidaaGreatDoor
open Go.RowKit
theorem and31 (k : Int) : Go.bits .and .u64 (IntKind.u64.wrap k) 31 = k % 32 := by
  have h0 : 0 ≤ k % 18446744073709551616 := Int.emod_nonneg _ (by decide)
  have e : IntKind.u64.wrap k = (((k % 18446744073709551616).toNat : Nat) : Int) := by
    rw [Int.toNat_of_nonneg h0]
    unfold IntKind.wrap
    simp [IntKind.signed, IntKind.bits]
  rw [e, show (31 : Int) = ((31 : Nat) : Int) from rfl, Sha.and_nat (k := .u64) rfl (by show _ < 2 ^ 64; omega) (by decide)]
  rw [show (31 : Nat) = 2 ^ 5 - 1 from rfl, Nat.and_two_pow_sub_one_eq_mod]
  omega
set_option maxHeartbeats 1000000 in
theorem rotl (x : Nat) (hx : x < Sha.M) (k : Int) (w : World) :
    Calls Tryz.prog 173 #[.int .u32 x, .int .i64 k] w fun e w' => e = .returned (.int .u32 (Sha.rot x (k % 32).toNat)) ∧ w = w' := by
  have ha := and31 k
  go_enter Tryz.func173, Tryz.ntmps173
  go_wp2
  go_ret
  refine ⟨?_, rfl⟩
  obtain ⟨s, hs, hk⟩ : ∃ s : Nat, s < 32 ∧ k % 32 = (s : Int) := ⟨(k % 32).toNat, by omega, by omega⟩
  have e1 : ((x : Int) * 2 ^ s % 4294967296) = (((x * 2 ^ s) % Sha.M : Nat) : Int) := by rw [Int.natCast_emod, Int.natCast_mul, Int.natCast_pow]; rfl
  have e2 : ((x : Int) / 2 ^ (32 - (s : Int)).toNat) = ((x / 2 ^ (32 - s) : Nat) : Int) := by
    rw [show (32 - (s : Int)).toNat = 32 - s by omega]
    rw [Int.natCast_ediv, Int.natCast_pow]; rfl
  rw [hk, Int.toNat_natCast, e1, e2]
  have e3 := Sha.or_nat (k := .u32) rfl (a := (x * 2 ^ s) % Sha.M) (b := x / 2 ^ (32 - s)) (Nat.mod_lt _ (by decide)) (Nat.lt_of_le_of_lt (Nat.div_le_self _ _) hx)
  show Ending.returned (.int .u32 (Go.bits .or .u32 _ _)) = _
  rw [e3]
  rfl
abbrev n8 (l : List Nat) : List Value := l.map fun x : Nat => .int .u8 (x : Int)
abbrev n32 (l : List Nat) : List Value := l.map fun x : Nat => .int .u32 (x : Int)
theorem getD_lt {b : List Nat} (hx : ∀ x ∈ b, x < 256) (j : Nat) : b.getD j 0 < 256 := by
  rw [List.getD_eq_getElem?_getD]
  cases h : b[j]? with
  | none => decide
  | some x => exact hx x (List.mem_of_getElem? h)
theorem up24 (x : Nat) (h : x < 256) : (x : Int) % 4294967296 * 16777216 % 4294967296 = ((x * 16777216 : Nat) : Int) := by omega
theorem up16 (x : Nat) (h : x < 256) : (x : Int) % 4294967296 * 65536 % 4294967296 = ((x * 65536 : Nat) : Int) := by omega
theorem up8 (x : Nat) (h : x < 256) : (x : Int) % 4294967296 * 256 % 4294967296 = ((x * 256 : Nat) : Int) := by omega
theorem up0 (x : Nat) (h : x < 256) : (x : Int) % 4294967296 = (x : Int) := by omega
theorem p32 {x : Nat} (h : x < 4294967296) : x < 2 ^ IntKind.u32.bits := h
theorem lt24 (x : Nat) (h : x < 256) : x * 16777216 < 2 ^ IntKind.u32.bits := p32 (by omega)
theorem lt16 (x : Nat) (h : x < 256) : x * 65536 < 2 ^ IntKind.u32.bits := p32 (by omega)
theorem lt8 (x : Nat) (h : x < 256) : x * 256 < 2 ^ IntKind.u32.bits := p32 (by omega)
theorem lt0 (x : Nat) (h : x < 256) : x < 2 ^ IntKind.u32.bits := p32 (by omega)
theorem word_or (b : List Nat) (i : Nat) (hx : ∀ x ∈ b, x < 256) : Go.bits .or .u32 (Go.bits .or .u32 (Go.bits .or .u32 (((b[4 * i]?.getD 0 : Nat) : Int) % 4294967296 * 16777216 % 4294967296) (((b[4 * i + 1]?.getD 0 : Nat) : Int) % 4294967296 * 65536 % 4294967296)) (((b[4 * i + 2]?.getD 0 : Nat) : Int) % 4294967296 * 256 % 4294967296)) (((b[4 * i + 3]?.getD 0 : Nat) : Int) % 4294967296) = (Sha.word b i : Nat) := by
  have h0 := getD_lt hx (4 * i)
  have h1 := getD_lt hx (4 * i + 1)
  have h2 := getD_lt hx (4 * i + 2)
  have h3 := getD_lt hx (4 * i + 3)
  unfold Sha.word
  rw [List.getD_eq_getElem?_getD] at h0 h1 h2 h3
  simp only [List.getD_eq_getElem?_getD]
  generalize b[4 * i]?.getD 0 = x0 at *
  generalize b[4 * i + 1]?.getD 0 = x1 at *
  generalize b[4 * i + 2]?.getD 0 = x2 at *
  generalize b[4 * i + 3]?.getD 0 = x3 at *
  rw [up24 x0 h0, up16 x1 h1, up8 x2 h2, up0 x3 h3]
  have l0 := lt24 x0 h0
  have l1 := lt16 x1 h1
  have l2 := lt8 x2 h2
  have l3 := lt0 x3 h3
  rw [Sha.or_nat (k := .u32) rfl l0 l1, Sha.or_nat (k := .u32) rfl (Nat.or_lt_two_pow l0 l1) l2, Sha.or_nat (k := .u32) rfl (Nat.or_lt_two_pow (Nat.or_lt_two_pow l0 l1) l2) l3]
theorem below_new (w : World) (o : Obj) : Below w.heap.size w (w.alloc o) := (Below.refl _ w).alloc (Nat.le_refl _) o
theorem below_newN (w : World) (o : Obj) (n : Nat) : Below w.heap.size w ((w.alloc o).drewN n) := ⟨(below_new w o).os, (below_new w o).tape, (below_new w o).output, (below_new w o).size, (below_new w o).block⟩
set_option maxHeartbeats 2000000 in
theorem word_any (b : List Nat) (hb : b.length = 64) (hx : ∀ x ∈ b, x < 256) (i : Nat) (hi : i < 16) (w : World) :
    Calls Tryz.prog 172 #[.agg (n8 b).toArray, .int .i64 i] w fun e w' => e = .returned (.int .u32 (Sha.word b i)) ∧ Below w.heap.size w w' := by
  have hbk : (w.alloc (.cells (n8 b).toArray 146)).heap[w.heap.size]? = some (.cells (n8 b).toArray 146 (0, 0)) := heap_alloc_new w _
  have hc : ∀ j, j < 64 → (w.alloc (.cells (n8 b).toArray 146)).cell? ⟨w.heap.size, j, none⟩ = some (.int .u8 (b.getD j 0 : Nat)) := fun j hj => by
    rw [cell_of_row _ _ _ _ _ _ hbk]
    simp [hb, hj]
  have c0 := hc (4 * i) (by omega)
  have c1 := hc (4 * i + 1) (by omega)
  have c2 := hc (4 * i + 2) (by omega)
  have c3 := hc (4 * i + 3) (by omega)
  have e0 : IntKind.i64.wrap (4 * (i : Int)) = ((4 * i : Nat) : Int) := by rw [IntWalk.i64_in _ (by omega)]; omega
  have e1 : IntKind.i64.wrap (((4 * i : Nat) : Int) + 1) = ((4 * i + 1 : Nat) : Int) := by rw [IntWalk.i64_in _ (by omega)]; omega
  have e2 : IntKind.i64.wrap (((4 * i : Nat) : Int) + 2) = ((4 * i + 2 : Nat) : Int) := by rw [IntWalk.i64_in _ (by omega)]; omega
  have e3 : IntKind.i64.wrap (((4 * i : Nat) : Int) + 3) = ((4 * i + 3 : Nat) : Int) := by rw [IntWalk.i64_in _ (by omega)]; omega
  clear hc hbk
  go_enter Tryz.func172, Tryz.ntmps172
  go_wp2
  go_region
  all_goals
    go_wp2
    go_ret
    exact ⟨congrArg (fun z => Ending.returned (.int .u32 z)) (word_or b i hx), by first | exact below_new w _ | exact below_newN w _ _⟩
end Go.Proofs.YtghcadbmjglidaaGreatDoor
end
section
set_option linter.unusedVariables false
namespace Go.Proofs.YtghcadbmjglidaaGreatDoor
open Go.RowKit
def vl (v : Sha.V) : List Nat := [v.a, v.b, v.c, v.d, v.e, v.f, v.g, v.h]
def kCells : Array Value := (n32 Sha.K).toArray
def kPairs : Array (Nat × Value) := R256K0.map fun x => match x with | (i, o) => (i, match o with | .const v => v | _ => undef)
def z64 : Array Value := #[.int .u32 0, .int .u32 0, .int .u32 0, .int .u32 0, .int .u32 0, .int .u32 0, .int .u32 0, .int .u32 0, .int .u32 0, .int .u32 0, .int .u32 0, .int .u32 0, .int .u32 0, .int .u32 0, .int .u32 0, .int .u32 0, .int .u32 0, .int .u32 0, .int .u32 0, .int .u32 0, .int .u32 0, .int .u32 0, .int .u32 0, .int .u32 0, .int .u32 0, .int .u32 0, .int .u32 0, .int .u32 0, .int .u32 0, .int .u32 0, .int .u32 0, .int .u32 0, .int .u32 0, .int .u32 0, .int .u32 0, .int .u32 0, .int .u32 0, .int .u32 0, .int .u32 0, .int .u32 0, .int .u32 0, .int .u32 0, .int .u32 0, .int .u32 0, .int .u32 0, .int .u32 0, .int .u32 0, .int .u32 0, .int .u32 0, .int .u32 0, .int .u32 0, .int .u32 0, .int .u32 0, .int .u32 0, .int .u32 0, .int .u32 0, .int .u32 0, .int .u32 0, .int .u32 0, .int .u32 0, .int .u32 0, .int .u32 0, .int .u32 0, .int .u32 0]
set_option maxRecDepth 100000
theorem consts_k : (R256K0.all fun x => match x.2 with | .const _ => true | _ => false) = true := by kernel_rfl
theorem map_k (a : Act) : (R256K0.map fun x => match x with | (i, o) => (i, a.eval o)) = kPairs := by
  unfold kPairs
  refine Array.map_congr_left fun x hx => ?_
  have h := Array.all_eq_true_iff_forall_mem.1 consts_k x hx
  obtain ⟨i, o⟩ := x
  cases o with
  | const v => rfl
  | _ => cases h
theorem build_k (w : World) : (Instr.build 210 kPairs).run Tryz.prog w = .ok (.agg kCells) w := by kernel_rfl
theorem alloc_w64 (w : World) : (Instr.alloc 210 true (.tuple #[])).run Tryz.prog w = .ok (.pointer (some ⟨w.heap.size, 0, none⟩)) (w.alloc (.cells z64 210)) := by kernel_rfl
theorem n32_cell (l : List Nat) : ∀ v ∈ n32 l, v.oneCell' = true := by
  intro v hv
  obtain ⟨x, _, rfl⟩ := List.mem_map.1 hv
  rfl
theorem there_of {w : World} {B : Nat} {cs : Array Value} {T : TypeId} (h : w.heap[B]? = some (.cells cs T (0, 0))) {o n : Nat} (hn : o + n ≤ cs.size) : w.there B o n := fun j hj => by
  rw [cell_of_row _ _ _ _ _ _ h]
  refine ⟨by simp; omega, by simp [World.frozen?, h]⟩
theorem setCells_block (b : Nat) (T : TypeId) : ∀ (vs : List Value) (pre cs : List Value) (w : World), w.heap[b]? = some (.cells (pre ++ cs).toArray T (0, 0)) → vs.length = cs.length → (w.setCells b pre.length vs).heap[b]? = some (.cells (pre ++ vs).toArray T (0, 0))
  | [], pre, cs, w, h, hl => by
    have : cs = [] := List.length_eq_zero_iff.1 hl.symm
    subst this
    exact h
  | v :: vs, pre, cs, w, h, hl => by
    obtain ⟨c, cs, rfl⟩ : ∃ c t, cs = c :: t := by
      cases cs with
      | nil => cases hl
      | cons c t => exact ⟨c, t, rfl⟩
    rw [World.setCells]
    have h1 := heap_setCell (j := pre.length) h v
    have e : (pre ++ c :: cs).toArray.setIfInBounds pre.length v = ((pre ++ [v]) ++ cs).toArray := by simp
    rw [e] at h1
    have h2 := setCells_block b T vs (pre ++ [v]) cs _ h1 (by simpa using hl)
    rw [List.length_append, List.length_singleton] at h2
    rw [h2]
    simp
theorem setCells_other {b k : Nat} (hk : k ≠ b) : ∀ (vs : List Value) (o : Nat) (w : World), (w.setCells b o vs).heap[k]? = w.heap[k]?
  | [], _, _ => rfl
  | v :: vs, o, w => by rw [World.setCells, setCells_other hk vs, Below.heap_setCell _ _ _ _ hk]
theorem setCells_size (b : Nat) : ∀ (vs : List Value) (o : Nat) (w : World), (w.setCells b o vs).heap.size = w.heap.size
  | [], _, _ => rfl
  | v :: vs, o, w => by rw [World.setCells, setCells_size b vs]; simp
theorem Fr.setCells {M : Nat → Prop} {w w' : World} (h : Fr M w w') (b : Nat) (hm : b < w.heap.size → M b) : ∀ (vs : List Value) (o : Nat) (w' : World), Fr M w w' → Fr M w (w'.setCells b o vs)
  | [], _, _, h => h
  | v :: vs, o, w', h => by rw [World.setCells]; exact Fr.setCells h b hm vs _ _ (h.setCell ⟨b, o, none⟩ v hm)
theorem info_64 : (Tryz.prog.info? 210).map (·.size) = some 64 := by kernel_rfl
theorem info_b64 : (Tryz.prog.info? 146).map (·.size) = some 64 := by kernel_rfl
def kWorld (w : World) : World := (w.alloc (.cells z64 210)).setCells w.heap.size 0 (n32 Sha.K)
theorem kWorld_size (w : World) : (kWorld w).heap.size = w.heap.size + 1 := (setCells_size _ _ _ _).trans (World.size_alloc _ _)
theorem kWorld_other (w : World) (k : Nat) (h : k < w.heap.size) : (kWorld w).heap[k]? = w.heap[k]? := (setCells_other (by omega) _ _ _).trans (Below.heap_alloc _ _ _ h)
theorem kWorld_new (w : World) : (kWorld w).heap[w.heap.size]? = some (.cells kCells 210 (0, 0)) := by
  have h1 : (w.alloc (.cells z64 210)).heap[w.heap.size]? = some (.cells ([] ++ n32 (List.replicate 64 0)).toArray 210 (0, 0)) := heap_alloc_new w _
  exact setCells_block w.heap.size 210 (n32 Sha.K) [] (n32 (List.replicate 64 0)) _ h1 (by decide)
theorem kWorld_fr (M : Nat → Prop) (w w' : World) (h : Fr M w w') : Fr M w (kWorld w') := by
  unfold kWorld
  have := h.size
  exact Fr.setCells h _ (fun h2 => by omega) _ _ _ (h.alloc _)
section
variable {ops : Array Oper} {rest : List Oper} {o : Oper} {a : Act} {Q : Exit → Act → World → Prop} {W : World}
theorem at_dst {N : Tmp} (_hN : o.dst = some N) (h : wpList Tryz.prog ops Q (o :: rest) a W) : wpList Tryz.prog ops Q (o :: rest) a W := h
theorem at_store {t : TypeId} {p : Tmp} {v : Operand} (_ho : o.op = .store t (.tmp p) v) (h : wpList Tryz.prog ops Q (o :: rest) a W) : wpList Tryz.prog ops Q (o :: rest) a W := h
theorem wpList_run (hgd : o.guard = none) (v : Value) (W' : World) (hrun : (execOp a.eval o).run Tryz.prog W = .ok (.value v) W') (h : wpList Tryz.prog ops Q rest (a.put o.dst v) W') : wpList Tryz.prog ops Q (o :: rest) a W :=
  wpList_plain hgd fun K hK => by
    unfold Oper.wp
    rw [hrun]
    exact hK _ _ h
theorem exec_build (ho : o.op = .build 210 R256K0) : (execOp a.eval o).run Tryz.prog W = .ok (.value (.agg kCells)) W := by
  unfold execOp
  rw [ho]
  show (do pure (Next.value (← Instr.build 210 (R256K0.map fun x => match x with | (i, o) => (i, a.eval o)))) : Sem Next).run _ _ = _
  rw [map_k, Sem.run_bind, build_k]
  rfl
theorem exec_alloc (ho : o.op = .alloc 210) : (execOp a.eval o).run Tryz.prog W = .ok (.value (.pointer (some ⟨W.heap.size, 0, none⟩))) (W.alloc (.cells z64 210)) := by
  unfold execOp
  rw [ho]
  show (do pure (Next.value (← Instr.alloc 210 true (.tuple #[]))) : Sem Next).run _ _ = _
  rw [Sem.run_bind, alloc_w64]
  rfl
theorem wpList_gen {ops : Array Oper} {rest : List Oper} {o : Oper} {a : Act} {Q : Exit → Act → World → Prop} {W : World} (Φ : World → Prop) (hΦ : Φ W) (h : ∀ W', Φ W' → wpList Tryz.prog ops Q (o :: rest) a W') : wpList Tryz.prog ops Q (o :: rest) a W := h W hΦ
end
end Go.Proofs.YtghcadbmjglidaaGreatDoor
end
section
set_option linter.unusedVariables false
namespace Go.Proofs.YtghcadbmjglidaaGreatDoor
open Go.RowKit
theorem rotl2 (x : Nat) (hx : x < Sha.M) (k : Int) (w : World) :
    Calls Tryz.prog 173 #[.int .u32 x, .int .i64 k] w fun e w' => e = .returned (.int .u32 (Sha.rot x (k % 32).toNat)) ∧ w' = w := (rotl x hx k w).mono fun _ _ h => ⟨h.1, h.2.symm⟩
theorem sched_len (b : List Nat) : ∀ n, (Sha.sched b n).length = n
  | 0 => rfl
  | n + 1 => by rw [Sha.sched, List.length_append, sched_len b n, List.length_singleton]
theorem load_b64 (b : List Nat) (hb : b.length = 64) : (Tryz.prog.info? 146).map (·.size) = some (n8 b).length := by rw [List.length_map, hb]; exact info_b64
theorem range_of {w : World} {B : Nat} {cs : List Value} {T : TypeId} (h : w.heap[B]? = some (.cells cs.toArray T (0, 0))) : w.rangeAt B 0 cs := fun j v hv => by
  rw [cell_of_row _ _ _ _ _ _ h]
  simpa using hv
structure S1 (w : World) (g B2 : Nat) (b : List Nat) (v : Sha.V) (rest : List Value) (T : TypeId) (ws : List Nat) (wr : World) : Prop where
  h0 : wr.heap[w.heap.size]? = some (.cells (n8 b).toArray 146 (0, 0))
  h1 : wr.heap[w.heap.size + 1]? = some (.cells kCells 210 (0, 0))
  h2 : wr.heap[B2]? = some (.cells (n32 (ws ++ List.replicate (64 - ws.length) 0)).toArray 210 (0, 0))
  h3 : wr.heap[g]? = some (.cells (n32 (vl v) ++ rest).toArray T (0, 0))
  hB : w.heap.size + 2 ≤ B2
  hg : g < w.heap.size
  fr : Fr (fun k => k = g) w wr
theorem S1.below {w : World} {g B2 : Nat} {b : List Nat} {v : Sha.V} {rest : List Value} {T : TypeId} {ws : List Nat} {wr wr' : World} (h : S1 w g B2 b v rest T ws wr) (hb : Below wr.heap.size wr wr') : S1 w g B2 b v rest T ws wr' :=
  ⟨(hb.block _ (block_lt h.h0)).trans h.h0, (hb.block _ (block_lt h.h1)).trans h.h1, (hb.block _ (block_lt h.h2)).trans h.h2, (hb.block _ (block_lt h.h3)).trans h.h3, h.hB, h.hg, h.fr.then_ (Fr.of_below0 hb) (fun _ _ h => h.elim)⟩
theorem S1.put {w : World} {g B2 : Nat} {b : List Nat} {v : Sha.V} {rest : List Value} {T : TypeId} {ws : List Nat} {wr : World} (h : S1 w g B2 b v rest T ws wr) (hl : ws.length < 64) (x : Nat) : S1 w g B2 b v rest T (ws ++ [x]) (wr.setCell ⟨B2, ws.length, none⟩ (.int .u32 x)) := by
  have hB := h.hB
  have hg := h.hg
  have hs := h.fr.size
  refine ⟨?_, ?_, ?_, ?_, h.hB, h.hg, h.fr.setCell ⟨B2, ws.length, none⟩ _ (fun h2 => by have : B2 < w.heap.size := h2; omega)⟩
  · rw [Below.heap_setCell _ _ _ _ (by show _ ≠ B2; omega)]; exact h.h0
  · rw [Below.heap_setCell _ _ _ _ (by show _ ≠ B2; omega)]; exact h.h1
  · rw [heap_setCell h.h2]
    congr 2
    have e : List.replicate (64 - ws.length) 0 = 0 :: List.replicate (64 - (ws ++ [x]).length) 0 := by
      rw [List.length_append, List.length_singleton, show 64 - ws.length = (64 - (ws.length + 1)) + 1 by omega, List.replicate_succ]
    rw [e]
    simp
  · rw [Below.heap_setCell _ _ _ _ (by show _ ≠ B2; omega)]; exact h.h3
theorem S1.cell {w : World} {g B2 : Nat} {b : List Nat} {v : Sha.V} {rest : List Value} {T : TypeId} {ws : List Nat} {wr : World} (h : S1 w g B2 b v rest T ws wr) (hl : ws.length ≤ 64) (j : Nat) (hj : j < 64) : wr.cell? ⟨B2, j, none⟩ = some (.int .u32 ((ws.getD j 0 : Nat) : Int)) ∧ wr.frozen? ⟨B2, j, none⟩ = false := by
  rw [cell_of_row _ _ _ _ _ _ h.h2]
  refine ⟨?_, by simp [World.frozen?, h.h2]⟩
  by_cases hjw : j < ws.length
  · simp [List.getElem?_append_left, hjw]
  · rw [List.getElem?_toArray, List.getElem?_map, List.getElem?_append_right (by omega), List.getElem?_replicate_of_lt (by omega)]
    simp [List.getElem?_eq_none (Nat.le_of_not_lt hjw)]
structure S2 (w : World) (g B3 : Nat) (v : Sha.V) (rest : List Value) (T : TypeId) (u : Sha.V) (wr : World) : Prop where
  h1 : wr.heap[w.heap.size + 1]? = some (.cells kCells 210 (0, 0))
  hv : wr.heap[B3]? = some (.cells (n32 (vl u)).toArray 145 (0, 0))
  h3 : wr.heap[g]? = some (.cells (n32 (vl v) ++ rest).toArray T (0, 0))
  hB : w.heap.size + 2 ≤ B3
  hg : g < w.heap.size
  fr : Fr (fun k => k = g) w wr
theorem S1.split {w : World} {g B2 : Nat} {b : List Nat} {v : Sha.V} {rest : List Value} {T : TypeId} {ws us : List Nat} {wr : World} (h : S1 w g B2 b v rest T ws wr) (h2 : wr.heap[B2]? = some (.cells (n32 us).toArray 210 (0, 0))) : S1 w g B2 b v rest T ws wr ∧ wr.heap[B2]? = some (.cells (n32 us).toArray 210 (0, 0)) := ⟨h, h2⟩
theorem range_pre {w : World} {B : Nat} {cs ds : List Value} {T : TypeId} (h : w.heap[B]? = some (.cells (cs ++ ds).toArray T (0, 0))) : w.rangeAt B 0 cs := fun j v hv => by
  rw [cell_of_row _ _ _ _ _ _ h]
  have hj : j < cs.length := (List.getElem?_eq_some_iff.1 hv).1
  simpa [List.getElem?_append_left hj] using hv
theorem info_8 : (Tryz.prog.info? 145).map (·.size) = some 8 := by kernel_rfl
def z8 : Array Value := #[.int .u32 0, .int .u32 0, .int .u32 0, .int .u32 0, .int .u32 0, .int .u32 0, .int .u32 0, .int .u32 0]
theorem there8 (w : World) (cs : List Value) (h : cs.length = 8) : (w.alloc (.cells z8 145)).there w.heap.size 0 cs.toArray.size := there_of (heap_alloc_new _ _) (by rw [List.size_toArray, h]; decide)
theorem info8 (cs : List Value) (h : cs.length = 8) : (Tryz.prog.info? 145).map (·.size) = some cs.toArray.size := by rw [List.size_toArray, h]; exact info_8
theorem info8l (cs : List Value) (h : cs.length = 8) : (Tryz.prog.info? 145).map (·.size) = some cs.length := by rw [h]; exact info_8
theorem alloc_w8 (w : World) : (Instr.alloc 145 true (.tuple #[])).run Tryz.prog w = .ok (.pointer (some ⟨w.heap.size, 0, none⟩)) (w.alloc (.cells z8 145)) := by kernel_rfl
theorem exec_alloc8 {o : Oper} {a : Act} {W : World} (ho : o.op = .alloc 145) : (execOp a.eval o).run Tryz.prog W = .ok (.value (.pointer (some ⟨W.heap.size, 0, none⟩))) (W.alloc (.cells z8 145)) := by
  unfold execOp
  rw [ho]
  show (do pure (Next.value (← Instr.alloc 145 true (.tuple #[]))) : Sem Next).run _ _ = _
  rw [Sem.run_bind, alloc_w8]
  rfl
theorem load_w64 (ws : List Nat) (h : ws.length = 64) : (Tryz.prog.info? 210).map (·.size) = some (n32 ws).length := by rw [List.length_map, h]; exact info_64
theorem start2 {w : World} {g B2 : Nat} {b : List Nat} {v : Sha.V} {rest : List Value} {T : TypeId} {ws us : List Nat} {wr : World} (h : S1 w g B2 b v rest T ws wr) (h2 : wr.heap[B2]? = some (.cells (n32 us).toArray 210 (0, 0))) :
    S2 w g wr.heap.size v rest T v ((wr.alloc (.cells z8 145)).setCells wr.heap.size 0 (n32 (vl v))) ∧ ((wr.alloc (.cells z8 145)).setCells wr.heap.size 0 (n32 (vl v))).heap[B2]? = some (.cells (n32 us).toArray 210 (0, 0)) := by
  have l1 := block_lt h.h1
  have l3 := block_lt h.h3
  have l2 := block_lt h2
  have hB := h.hB
  have hs := h.fr.size
  have hn : (wr.alloc (.cells z8 145)).heap[wr.heap.size]? = some (.cells ([] ++ z8.toList).toArray 145 (0, 0)) := heap_alloc_new wr _
  refine ⟨⟨(setCells_other (by omega) _ _ _).trans ((Below.heap_alloc _ _ _ l1).trans h.h1), setCells_block wr.heap.size _ (n32 (vl v)) [] z8.toList _ hn rfl, (setCells_other (by omega) _ _ _).trans ((Below.heap_alloc _ _ _ l3).trans h.h3), by omega, h.hg, ?_⟩, (setCells_other (by omega) _ _ _).trans ((Below.heap_alloc _ _ _ l2).trans h2)⟩
  exact Fr.setCells h.fr _ (fun h9 => by omega) _ _ _ (h.fr.alloc _)
theorem S2.drewN {w : World} {g B3 : Nat} {v : Sha.V} {rest : List Value} {T : TypeId} {u : Sha.V} {wr : World} (h : S2 w g B3 v rest T u wr) (n : Nat) : S2 w g B3 v rest T u (wr.drewN n) := ⟨h.h1, h.hv, h.h3, h.hB, h.hg, h.fr.drewN n⟩
theorem S2.cells {w : World} {g B3 : Nat} {v : Sha.V} {rest : List Value} {T : TypeId} {u : Sha.V} {wr : World} (h : S2 w g B3 v rest T u wr) :
    wr.cell? ⟨B3, 0, none⟩ = some (.int .u32 (u.a : Int)) ∧ wr.cell? ⟨B3, 1, none⟩ = some (.int .u32 (u.b : Int)) ∧ wr.cell? ⟨B3, 2, none⟩ = some (.int .u32 (u.c : Int)) ∧ wr.cell? ⟨B3, 3, none⟩ = some (.int .u32 (u.d : Int)) ∧
    wr.cell? ⟨B3, 4, none⟩ = some (.int .u32 (u.e : Int)) ∧ wr.cell? ⟨B3, 5, none⟩ = some (.int .u32 (u.f : Int)) ∧ wr.cell? ⟨B3, 6, none⟩ = some (.int .u32 (u.g : Int)) ∧ wr.cell? ⟨B3, 7, none⟩ = some (.int .u32 (u.h : Int)) := by
  simp only [cell_of_row _ _ _ _ _ _ h.hv]
  simp [vl]
theorem S2.there {w : World} {g B3 : Nat} {v : Sha.V} {rest : List Value} {T : TypeId} {u : Sha.V} {wr : World} (h : S2 w g B3 v rest T u wr) : wr.there B3 0 8 := there_of h.hv (by simp [vl])
theorem S2.kcell {w : World} {g B3 : Nat} {v : Sha.V} {rest : List Value} {T : TypeId} {u : Sha.V} {wr : World} (h : S2 w g B3 v rest T u wr) (n : Nat) (hn : n < 64) : wr.cell? ⟨w.heap.size + 1, n, none⟩ = some (.int .u32 ((Sha.K.getD n 0 : Nat) : Int)) := by
  rw [cell_of_row _ _ _ _ _ _ h.h1]
  have : n < Sha.K.length := hn
  simp [kCells, List.getD_eq_getElem?_getD, this]
theorem S2.put {w : World} {g B3 : Nat} {v : Sha.V} {rest : List Value} {T : TypeId} {u : Sha.V} {wr : World} (h : S2 w g B3 v rest T u wr) (u' : Sha.V) : S2 w g B3 v rest T u' (wr.setCells B3 0 (n32 (vl u'))) := by
  have hB := h.hB
  have hg := h.hg
  have hs := h.fr.size
  exact ⟨(setCells_other (by omega) _ _ _).trans h.h1, setCells_block B3 _ (n32 (vl u')) [] (n32 (vl u)) wr h.hv rfl, (setCells_other (by omega) _ _ _).trans h.h3, h.hB, h.hg, Fr.setCells h.fr _ (fun h9 => by omega) _ _ _ h.fr⟩
structure S3 (w : World) (g B3 : Nat) (v : Sha.V) (rest : List Value) (T : TypeId) (u : Sha.V) (i : Nat) (wr : World) : Prop where
  hv : wr.heap[B3]? = some (.cells (n32 (vl u)).toArray 145 (0, 0))
  h3 : wr.heap[g]? = some (.cells (n32 ((vl (v.add u)).take i ++ (vl v).drop i) ++ rest).toArray T (0, 0))
  hB : w.heap.size + 2 ≤ B3
  hg : g < w.heap.size
  fr : Fr (fun k => k = g) w wr
theorem S3.start {w : World} {g B3 : Nat} {v : Sha.V} {rest : List Value} {T : TypeId} {u : Sha.V} {wr : World} (h : S2 w g B3 v rest T u wr) : S3 w g B3 v rest T u 0 wr := ⟨h.hv, h.h3, h.hB, h.hg, h.fr⟩
theorem add_get (v u : Sha.V) : ∀ i, i < 8 → (vl (v.add u)).getD i 0 = ((vl v).getD i 0 + (vl u).getD i 0) % Sha.M
  | 0, _ | 1, _ | 2, _ | 3, _ | 4, _ | 5, _ | 6, _ | 7, _ => rfl
  | n + 8, h => by omega
theorem S3.cell {w : World} {g B3 : Nat} {v : Sha.V} {rest : List Value} {T : TypeId} {u : Sha.V} {i : Nat} {wr : World} (h : S3 w g B3 v rest T u i wr) (hi : i < 8) :
    ∃ p q r : Nat, wr.cell? ⟨g, i, none⟩ = some (.int .u32 (p : Int)) ∧ wr.frozen? ⟨g, i, none⟩ = false ∧ wr.cell? ⟨B3, i, none⟩ = some (.int .u32 (q : Int)) ∧ ∀ n, S3 w g B3 v rest T u (i + 1) ((wr.drewN n).setCell ⟨g, i, none⟩ (.int .u32 (((p + q) % Sha.M : Nat) : Int))) := by
  have hB := h.hB
  have hg := h.hg
  have hl : (vl (v.add u)).length = 8 := rfl
  have hlv : (vl v).length = 8 := rfl
  refine ⟨(vl v).getD i 0, (vl u).getD i 0, 0, ?_, by simp [World.frozen?, h.h3], ?_, fun n => ?_⟩
  · rw [cell_of_row _ _ _ _ _ _ h.h3, List.getElem?_toArray, List.getElem?_append_left (by simp [hl, hlv]; omega), List.getElem?_map, List.getElem?_append_right (by simp [hl]; omega)]
    simp [hl, Nat.min_eq_left (Nat.le_of_lt hi), List.getD_eq_getElem?_getD, hlv, hi]
  · rw [cell_of_row _ _ _ _ _ _ h.hv]
    have : i < (vl u).length := hi
    simp [List.getD_eq_getElem?_getD, this]
  · rw [← add_get v u i hi]
    refine ⟨?_, ?_, h.hB, h.hg, (h.fr.drewN n).setCell ⟨g, i, none⟩ _ (fun _ => rfl)⟩
    · rw [Below.heap_setCell _ _ _ _ (by show B3 ≠ g; omega)]; exact h.hv
    · rw [heap_setCell (w := wr.drewN n) h.h3]
      congr 2
      have e1 : (vl v).drop i = (vl v).getD i 0 :: (vl v).drop (i + 1) := by
        rw [List.drop_eq_getElem_cons (by omega), List.getD_eq_getElem?_getD, List.getElem?_eq_getElem (by omega)]; rfl
      have e2 : (vl (v.add u)).take (i + 1) = (vl (v.add u)).take i ++ [(vl (v.add u)).getD i 0] := by
        rw [List.take_succ_eq_append_getElem (by omega), List.getD_eq_getElem?_getD, List.getElem?_eq_getElem (by omega)]; rfl
      rw [e1, e2]
      have e3 : ((vl (v.add u)).take i).length = i := by simp [hl]; omega
      simp only [List.setIfInBounds_toArray, List.map_append, List.map_cons, List.append_assoc, List.cons_append]
      rw [List.set_append_right _ _ (by simp [hl]; omega)]
      simp [hl, Nat.min_eq_left (Nat.le_of_lt hi)]
structure VOk (v : Sha.V) : Prop where
  a : v.a < Sha.M
  b : v.b < Sha.M
  c : v.c < Sha.M
  d : v.d < Sha.M
  e : v.e < Sha.M
  f : v.f < Sha.M
  g : v.g < Sha.M
  h : v.h < Sha.M
theorem next_ok {v : Sha.V} (h : VOk v) (k x : Nat) : VOk (v.next k x) := ⟨Nat.mod_lt _ (by decide), h.a, h.b, h.c, Nat.mod_lt _ (by decide), h.e, h.f, h.g⟩
theorem rounds_ok {ws : List Nat} (hw : ∀ z ∈ ws, z < Sha.M) {v : Sha.V} (h : VOk v) : ∀ n, VOk (Sha.rounds ws v n)
  | 0 => h
  | n + 1 => next_ok (rounds_ok hw h n) _ _
theorem run_index64 (cs : List Value) (n : Nat) (x : Value) (W : World) (hn : n < 64) (hx : cs[n]? = some x) : (Instr.index 210 (.agg cs.toArray) (.int .i64 (n : Int))).run Tryz.prog W = .ok x W := by
  have hu := Tryz.underlying210
  have hu2 := Tryz.underlying137
  have b0 : (0 : Int) ≤ (n : Int) := by omega
  have b1 : (n : Int) < 64 := by omega
  unfold Instr.index
  go_simp
theorem exec_index {o : Oper} {a : Act} {W : World} (cs : List Value) (n : Nat) (x : Value) {p q : Operand} (ho : o.op = .index 210 p q) (hp : a.eval p = .agg cs.toArray) (hq : a.eval q = .int .i64 (n : Int)) (hn : n < 64) (hx : cs[n]? = some x) : (execOp a.eval o).run Tryz.prog W = .ok (.value x) W := by
  unfold execOp
  rw [ho]
  show (do pure (Next.value (← Instr.index 210 (a.eval p) (a.eval q))) : Sem Next).run _ _ = _
  rw [hp, hq, Sem.run_bind, run_index64 cs n x W hn hx]
  rfl
theorem word_lt {b : List Nat} (hx : ∀ x ∈ b, x < 256) (i : Nat) : Sha.word b i < Sha.M := by
  have h0 := getD_lt hx (4 * i)
  have h1 := getD_lt hx (4 * i + 1)
  have h2 := getD_lt hx (4 * i + 2)
  have h3 := getD_lt hx (4 * i + 3)
  unfold Sha.word
  exact Nat.or_lt_two_pow (n := 32) (Nat.or_lt_two_pow (Nat.or_lt_two_pow (lt24 _ h0) (lt16 _ h1)) (lt8 _ h2)) (lt0 _ h3)
theorem nextW_lt {b : List Nat} (hx : ∀ x ∈ b, x < 256) (ws : List Nat) (i : Nat) : Sha.nextW b ws i < Sha.M := by
  unfold Sha.nextW
  split
  · exact word_lt hx i
  · exact Nat.mod_lt _ (by decide)
theorem sched_lt {b : List Nat} (hx : ∀ x ∈ b, x < 256) : ∀ n, ∀ z ∈ Sha.sched b n, z < Sha.M
  | 0, z, h => by cases h
  | n + 1, z, h => by
    rw [Sha.sched] at h
    rcases List.mem_append.1 h with h | h
    · exact sched_lt hx n z h
    · rw [List.mem_singleton] at h; subst h; exact nextW_lt hx _ _
theorem sched_get {b : List Nat} (hx : ∀ x ∈ b, x < 256) (n j : Nat) : (Sha.sched b n).getD j 0 < Sha.M := by
  rw [List.getD_eq_getElem?_getD]
  cases h : (Sha.sched b n)[j]? with
  | none => decide
  | some z => exact sched_lt hx n z (List.mem_of_getElem? h)
theorem div_lt {x : Nat} (h : x < Sha.M) (k : Nat) : x / k < 2 ^ IntKind.u32.bits := Nat.lt_of_le_of_lt (Nat.div_le_self _ _) h
theorem xor3 {a b c : Nat} (ha : a < Sha.M) (hb : b < Sha.M) (hc : c < Sha.M) : Go.bits .xor .u32 (Go.bits .xor .u32 (a : Int) (b : Int)) (c : Int) = (((a ^^^ b) ^^^ c : Nat) : Int) := by
  rw [Sha.xor_nat (k := .u32) rfl ha hb, Sha.xor_nat (k := .u32) rfl (Nat.xor_lt_two_pow ha hb) hc]
theorem sum4 (p A q B : Nat) : ((p : Int) + (A : Int) + (q : Int) + (B : Int)) % 4294967296 = (((((p + A) % Sha.M + q) % Sha.M + B) % Sha.M : Nat) : Int) := by
  unfold Sha.M
  omega
theorem next_val (x y p q : Nat) (hx : x < Sha.M) (hy : y < Sha.M) : ((p : Int) + Go.bits .xor .u32 (Go.bits .xor .u32 (Sha.rot x 25 : Nat) (Sha.rot x 14 : Nat)) ((x : Int) / 8) + (q : Int) + Go.bits .xor .u32 (Go.bits .xor .u32 (Sha.rot y 15 : Nat) (Sha.rot y 13 : Nat)) ((y : Int) / 1024)) % 4294967296 = (((((p + Sha.s0 x) % Sha.M + q) % Sha.M + Sha.s1 y) % Sha.M : Nat) : Int) := by
  rw [show ((x : Int) / 8) = ((x / 8 : Nat) : Int) by omega, show ((y : Int) / 1024) = ((y / 1024 : Nat) : Int) by omega, xor3 (Sha.rot_lt hx) (Sha.rot_lt hx) (div_lt hx 8), xor3 (Sha.rot_lt hy) (Sha.rot_lt hy) (div_lt hy 1024)]
  exact sum4 _ _ _ _
theorem t_val (u : Sha.V) (k x : Nat) (h : VOk u) : ((((u.h : Int) + Go.bits .xor .u32 (Go.bits .xor .u32 (Sha.rot u.e 26 : Nat) (Sha.rot u.e 21 : Nat)) (Sha.rot u.e 7 : Nat) + Go.bits .xor .u32 (u.g : Int) (Go.bits .and .u32 (u.e : Int) (Go.bits .xor .u32 (u.f : Int) (u.g : Int))) + (k : Int)) % 4294967296 + (x : Int)) % 4294967296) = ((u.t k x : Nat) : Int) := by
  have h1 : u.f ^^^ u.g < Sha.M := Nat.xor_lt_two_pow (n := 32) h.f h.g
  have h2 : u.e &&& (u.f ^^^ u.g) < Sha.M := Nat.and_lt_two_pow (n := 32) _ h1
  rw [xor3 (Sha.rot_lt h.e) (Sha.rot_lt h.e) (Sha.rot_lt h.e), Sha.xor_nat (k := .u32) rfl h.f h.g, Sha.and_nat (k := .u32) rfl h.e h1, Sha.xor_nat (k := .u32) rfl h.g h2]
  unfold Sha.V.t Sha.S1 Sha.M
  omega
theorem u_val (u : Sha.V) (h : VOk u) : ((Go.bits .xor .u32 (Go.bits .xor .u32 (Sha.rot u.a 30 : Nat) (Sha.rot u.a 19 : Nat)) (Sha.rot u.a 10 : Nat) + Go.bits .or .u32 (Go.bits .and .u32 (u.a : Int) (u.b : Int)) (Go.bits .and .u32 (u.c : Int) (Go.bits .or .u32 (u.a : Int) (u.b : Int)))) % 4294967296) = ((u.u : Nat) : Int) := by
  have h1 : u.a ||| u.b < Sha.M := Nat.or_lt_two_pow (n := 32) h.a h.b
  have h2 : u.c &&& (u.a ||| u.b) < Sha.M := Nat.and_lt_two_pow (n := 32) _ h1
  have h3 : u.a &&& u.b < Sha.M := Nat.and_lt_two_pow (n := 32) _ h.b
  rw [xor3 (Sha.rot_lt h.a) (Sha.rot_lt h.a) (Sha.rot_lt h.a), Sha.or_nat (k := .u32) rfl h.a h.b, Sha.and_nat (k := .u32) rfl h.c h1, Sha.and_nat (k := .u32) rfl h.a h.b, Sha.or_nat (k := .u32) rfl h3 h2]
  unfold Sha.V.u Sha.S0 Sha.M
  omega
theorem start_world (g : Nat) (w : World) (b : List Nat) (o1 : Obj) (hg : w.heap[g]? = some o1) :
    (kWorld (w.alloc (.cells (n8 b).toArray 146))).heap[w.heap.size]? = some (.cells (n8 b).toArray 146 (0, 0)) ∧
    (kWorld (w.alloc (.cells (n8 b).toArray 146))).heap[w.heap.size + 1]? = some (.cells kCells 210 (0, 0)) ∧
    (kWorld (w.alloc (.cells (n8 b).toArray 146))).heap[g]? = some o1 ∧
    (kWorld (w.alloc (.cells (n8 b).toArray 146))).heap.size = w.heap.size + 2 ∧
    Fr (fun k => k = g) w (kWorld (w.alloc (.cells (n8 b).toArray 146))) := by
  have hlt := block_lt hg
  have hn := kWorld_new (w.alloc (.cells (n8 b).toArray 146))
  rw [World.size_alloc] at hn
  exact ⟨(kWorld_other _ _ (by simp)).trans (heap_alloc_new w _), hn, (kWorld_other _ _ (by simp; omega)).trans ((Below.heap_alloc _ _ _ hlt).trans hg), by rw [kWorld_size, World.size_alloc], kWorld_fr _ _ _ ((Fr.refl _ w).alloc _)⟩
set_option maxRecDepth 100000 in
set_option maxHeartbeats 4000000 in
theorem round256 (g : Nat) (v : Sha.V) (b : List Nat) (rest : List Value) (T : TypeId) (hb : b.length = 64) (hx : ∀ x ∈ b, x < 256) (hvok : VOk v) (w : World) (hg : w.heap[g]? = some (.cells (n32 (vl v) ++ rest).toArray T (0, 0))) :
    Calls Tryz.prog 153 #[.pointer (some ⟨g, 0, none⟩), .agg (n8 b).toArray] w fun e w' => e = .returned (.tuple #[]) ∧ w'.heap[g]? = some (.cells (n32 (vl (Sha.block v b)) ++ rest).toArray T (0, 0)) ∧ Fr (fun k => k = g) w w' := by
  have HG := hg
  refine calls_of_wp Tryz.func153 R256_body ?_
  simp only [Tryz.ntmps153, List.size_toArray, List.length_cons, List.length_nil, Nat.reduceAdd, Nat.reduceSub, Array.replicate_succ, Array.replicate_zero, List.push_toArray, List.append_toArray, List.nil_append, List.cons_append]
  unfold R256Body
  go_wp2_with (first
    | ((with_reducible refine at_dst (N := 17) rfl ?_); refine wpList_run rfl _ _ (exec_build rfl) ?_; simp only [Act.put, List.setIfInBounds_toArray, List.set_cons_zero, List.set_cons_succ])
    | ((with_reducible refine at_dst (N := 4) rfl ?_); refine wpList_run rfl _ _ (exec_alloc rfl) ?_; simp only [Act.put, List.setIfInBounds_toArray, List.set_cons_zero, List.set_cons_succ])
    | ((with_reducible refine at_store (p := 4) rfl ?_); refine wpList_store_mid rfl 210 (.tmp 4) (.tmp 17) rfl (w.alloc (.cells (n8 b).toArray 146)).heap.size 0 kCells rfl rfl (there_of (heap_alloc_new _ _) (by decide)) info_64 (all_oneCell_toArray (n32_cell _)) ?_; simp only [Act.put, List.setIfInBounds_toArray, List.set_cons_zero, List.set_cons_succ])
    | ((with_reducible refine at_dst (N := 5) rfl ?_); refine wpList_gen (fun W => W.heap[w.heap.size]? = some (.cells (n8 b).toArray 146 (0, 0)) ∧ W.heap[w.heap.size + 1]? = some (.cells kCells 210 (0, 0)) ∧ W.heap[g]? = some (.cells (n32 (vl v) ++ rest).toArray T (0, 0)) ∧ W.heap.size = w.heap.size + 2 ∧ Fr (fun k => k = g) w W) (start_world g w b _ hg) ?_; rintro W ⟨h0, h1, h3, hz, hF⟩; refine wpList_run rfl _ _ (exec_alloc rfl) ?_; simp only [Act.put, List.setIfInBounds_toArray, List.set_cons_zero, List.set_cons_succ]))
  rw [World.size_alloc]
  have hs1 : S1 w g W.heap.size b v rest T (Sha.sched b 0) (W.alloc (.cells z64 210)) := ⟨(Below.heap_alloc _ _ _ (block_lt h0)).trans h0, (Below.heap_alloc _ _ _ (block_lt h1)).trans h1, heap_alloc_new W _, (Below.heap_alloc _ _ _ (block_lt h3)).trans h3, by omega, block_lt hg, hF.alloc _⟩
  obtain ⟨B2, hB2⟩ : ∃ B2, W.heap.size = B2 := ⟨_, rfl⟩
  obtain ⟨W2, hW2⟩ : ∃ W2, W.alloc (.cells z64 210) = W2 := ⟨_, rfl⟩
  rw [hW2, hB2] at hs1 ⊢
  clear hW2 hB2 h0 h1 h3 hz hF HG hg
  go_loopw [18] (fun t wr => ∃ i : Nat, i ≤ 64 ∧ t = .int .i64 i ∧ S1 w g B2 b v rest T (Sha.sched b i) wr) (fun t _ => 64 - (intOf t).toNat)
  case atStart => exact ⟨0, by omega, rfl, hs1⟩
  case round =>
    clear hs1
    obtain ⟨i, hi, rfl, hS⟩ := hrel
    by_cases hlt : i < 64
    · by_cases h16 : i < 16
      · have d64 : decide ((i : Int) < 64) = true := decide_eq_true (by omega)
        have d16 : decide ((i : Int) < 16) = true := decide_eq_true (by omega)
        have HS := Lib.hid hS
        have hn : Hid (Sha.sched b (i + 1) = Sha.sched b i ++ [Sha.word b i]) := by show _ = _; rw [Sha.sched, Sha.nextW, if_pos h16]
        clear hS
        go_wp2_with (first
          | ((with_reducible refine at_dst (N := 24) rfl ?_); refine wpList_load_mid rfl 146 (.tmp 3) rfl w.heap.size 0 rfl (n8 b) _ (range_of HS.out.h0) Tryz.underlying146 rfl (load_b64 b hb) ?_; simp only [Act.put, List.setIfInBounds_toArray, List.set_cons_zero, List.set_cons_succ])
          | (go_at_call 172; refine (word_any b hb hx i h16 wr).mono ?_; rintro e w1 ⟨rfl, hb1⟩; have HS1 := Lib.hid (HS.out.below hb1); have hc := (HS1.out.cell (by rw [sched_len]; omega) i (by omega)).1; have hf := (HS1.out.cell (by rw [sched_len]; omega) i (by omega)).2; clear hb1))
        go_roundw
        case rel => exact ⟨i + 1, by omega, by go_num, by
          rw [hn.out]
          have h9 := HS1.out.put (by rw [sched_len]; omega) (Sha.word b i)
          rw [sched_len] at h9
          exact h9⟩
        case measure => simp [intOf]; omega
      · have d64 : decide ((i : Int) < 64) = true := decide_eq_true (by omega)
        have d16 : decide ((i : Int) < 16) = false := decide_eq_false (by omega)
        have HS := Lib.hid hS
        have hn : Hid (Sha.sched b (i + 1) = Sha.sched b i ++ [Sha.nextW b (Sha.sched b i) i]) := by show _ = _; rw [Sha.sched]
        have c15 := (hS.cell (by rw [sched_len]; omega) (i - 15) (by omega)).1
        have c2 := (hS.cell (by rw [sched_len]; omega) (i - 2) (by omega)).1
        have c16 := (hS.cell (by rw [sched_len]; omega) (i - 16) (by omega)).1
        have c7 := (hS.cell (by rw [sched_len]; omega) (i - 7) (by omega)).1
        have hc := (hS.cell (by rw [sched_len]; omega) i (by omega)).1
        have hf := (hS.cell (by rw [sched_len]; omega) i (by omega)).2
        obtain ⟨x, hx15⟩ : ∃ x, (Sha.sched b i).getD (i - 15) 0 = x := ⟨_, rfl⟩
        obtain ⟨y, hy2⟩ : ∃ x, (Sha.sched b i).getD (i - 2) 0 = x := ⟨_, rfl⟩
        obtain ⟨p, hp16⟩ : ∃ x, (Sha.sched b i).getD (i - 16) 0 = x := ⟨_, rfl⟩
        obtain ⟨q, hq7⟩ : ∃ x, (Sha.sched b i).getD (i - 7) 0 = x := ⟨_, rfl⟩
        obtain ⟨r, hr⟩ : ∃ x, (Sha.sched b i).getD i 0 = x := ⟨_, rfl⟩
        rw [hx15] at c15
        rw [hy2] at c2
        rw [hp16] at c16
        rw [hq7] at c7
        rw [hr] at hc
        have hlx : x < Sha.M := by rw [← hx15]; exact sched_get hx i (i - 15)
        have hly : y < Sha.M := by rw [← hy2]; exact sched_get hx i (i - 2)
        have HX15 := Lib.hid hx15
        have HY2 := Lib.hid hy2
        have HP16 := Lib.hid hp16
        have HQ7 := Lib.hid hq7
        have e15 : IntKind.i64.wrap ((i : Int) - 15) = ((i - 15 : Nat) : Int) := by rw [IntWalk.i64_in _ (by omega)]; omega
        have e2 : IntKind.i64.wrap ((i : Int) - 2) = ((i - 2 : Nat) : Int) := by rw [IntWalk.i64_in _ (by omega)]; omega
        have e16 : IntKind.i64.wrap ((i : Int) - 16) = ((i - 16 : Nat) : Int) := by rw [IntWalk.i64_in _ (by omega)]; omega
        have e7 : IntKind.i64.wrap ((i : Int) - 7) = ((i - 7 : Nat) : Int) := by rw [IntWalk.i64_in _ (by omega)]; omega
        clear hS hx15 hy2 hp16 hq7 hr
        go_wp2
        go_quiet (fail)
        have HSq : Hid (S1 w g B2 b v rest T (Sha.sched b i) (wr.drewN nq)) := Lib.hid (HS.out.below ⟨rfl, rfl, rfl, Nat.le_refl _, fun _ _ => rfl⟩)
        have c16q : (wr.drewN nq).cell? ⟨B2, i - 16, none⟩ = some (.int .u32 (p : Int)) := c16
        have c7q : (wr.drewN nq).cell? ⟨B2, i - 7, none⟩ = some (.int .u32 (q : Int)) := c7
        have hcq : (wr.drewN nq).cell? ⟨B2, i, none⟩ = some (.int .u32 (r : Int)) := hc
        have hfq : (wr.drewN nq).frozen? ⟨B2, i, none⟩ = false := hf
        clear HS c15 c2 c16 c7 hc hf
        generalize wr.drewN nq = wq at *
        go_wp2
        refine wp_region_quiet_tail 29 (by kernel_rfl) (by kernel_rfl) ?_
        simp only [List.take_succ_cons, List.take_zero, List.drop_succ_cons, List.drop_zero]
        repeat (any_goals (first
          | go_big_quiet_step ((go_at_call 173; exact Calls.quiet_of_same (rotl2 _ (by first | exact hlx | exact hly) _ _)))
          | quiet_step ((go_at_call 173; exact Calls.quiet_of_same (rotl2 _ (by first | exact hlx | exact hly) _ _)))))
        refine wpQuiet_nil ?_
        rintro w' ⟨nq2, rfl⟩
        go_wp2
        go_roundw
        case measure => simp [intOf]; omega
        case rel =>
          refine ⟨i + 1, by omega, by go_num, ?_⟩
          have h9 := (show S1 w g B2 b v rest T (Sha.sched b i) (wq.drewN nq2) from HSq.out.below ⟨rfl, rfl, rfl, Nat.le_refl _, fun _ _ => rfl⟩).put (by rw [sched_len]; omega) (Sha.nextW b (Sha.sched b i) i)
          rw [sched_len] at h9
          rw [hn.out, next_val x y p q hlx hly]
          unfold Sha.nextW at h9 ⊢
          rw [if_neg h16] at h9 ⊢
          rw [HX15.out, HY2.out, HP16.out, HQ7.out] at h9 ⊢
          exact h9
    · have hi64 : i = 64 := by omega
      subst hi64
      have d64 : decide (((64 : Nat) : Int) < 64) = false := decide_eq_false (by omega)
      have h2 := hS.h2
      rw [sched_len, Nat.sub_self, List.replicate_zero, List.append_nil] at h2
      obtain ⟨ws, hws⟩ : ∃ ws, Sha.sched b 64 = ws := ⟨_, rfl⟩
      have hwl : ws.length = 64 := by rw [← hws, sched_len]
      have hwx : ∀ z ∈ ws, z < Sha.M := by rw [← hws]; exact sched_lt hx 64
      have HW := Lib.hid hws
      rw [hws] at h2
      have HSg := Lib.hid (S1.split hS h2)
      clear hS h2 hws hlt hi
      go_wp2_with (first
        | ((with_reducible refine at_dst (N := 68) rfl ?_); refine wpList_load_mid rfl 145 (.tmp 67) rfl g 0 rfl (n32 (vl v)) _ (range_pre HSg.out.1.h3) Tryz.underlying145 rfl (info8l (n32 (vl v)) rfl) ?_; simp only [Act.put, List.setIfInBounds_toArray, List.set_cons_zero, List.set_cons_succ])
        | ((with_reducible refine at_dst (N := 9) rfl ?_); refine wpList_run rfl _ _ (exec_alloc8 rfl) ?_; simp only [Act.put, List.setIfInBounds_toArray, List.set_cons_zero, List.set_cons_succ])
        | ((with_reducible refine at_store (p := 9) rfl ?_); refine wpList_store_mid rfl 145 (.tmp 9) (.tmp 68) rfl wr.heap.size 0 (n32 (vl v)).toArray rfl rfl (there8 wr (n32 (vl v)) rfl) (info8 (n32 (vl v)) rfl) (all_oneCell_toArray (n32_cell _)) ?_; simp only [Act.put, List.setIfInBounds_toArray, List.set_cons_zero, List.set_cons_succ])
        | ((with_reducible refine at_dst (N := 69) rfl ?_); refine wpList_gen (fun W' => S2 w g wr.heap.size v rest T (Sha.rounds ws v 0) W' ∧ W'.heap[B2]? = some (.cells (n32 ws).toArray 210 (0, 0))) (start2 HSg.out.1 HSg.out.2) ?_; rintro W4 ⟨hS2, h2⟩; refine wpList_load_mid rfl 210 (.tmp 5) rfl B2 0 rfl (n32 ws) _ (range_of h2) Tryz.underlying210 rfl (load_w64 ws hwl) ?_; simp only [Act.put, List.setIfInBounds_toArray, List.set_cons_zero, List.set_cons_succ]; clear h2))
      obtain ⟨B3, hB3⟩ : ∃ B3, wr.heap.size = B3 := ⟨_, rfl⟩
      rw [hB3] at hS2 ⊢
      clear hB3 HSg
      go_loopw [70] (fun t wr2 => ∃ n : Nat, n ≤ 64 ∧ t = .int .i64 n ∧ S2 w g B3 v rest T (Sha.rounds ws v n) wr2) (fun t _ => 64 - (intOf t).toNat)
      case atStart => exact ⟨0, by omega, rfl, hS2⟩
      case round =>
        clear hS2
        obtain ⟨n, hn, rfl, hS⟩ := hrel
        by_cases hlt : n < 64
        · have d64 : decide ((n : Int) < 64) = true := decide_eq_true (by omega)
          obtain ⟨x, hxn⟩ : ∃ x, ws.getD n 0 = x := ⟨_, rfl⟩
          obtain ⟨k, hkn⟩ : ∃ x, Sha.K.getD n 0 = x := ⟨_, rfl⟩
          obtain ⟨u, hu⟩ : ∃ u, Sha.rounds ws v n = u := ⟨_, rfl⟩
          have hnext : Hid (Sha.rounds ws v (n + 1) = u.next k x) := by show _ = _; rw [Sha.rounds, hu, hxn, hkn]
          rw [hu] at hS
          have hok : VOk u := by rw [← hu]; exact rounds_ok hwx hvok n
          have hix : Hid ((n32 ws)[n]? = some (.int .u32 (x : Int))) := by
            show _ = _
            rw [← hxn]
            simp [List.getD_eq_getElem?_getD, show n < ws.length by omega]
          obtain ⟨c0, c1, c2, c3, c4, c5, c6, c7⟩ := hS.cells
          have HS := Lib.hid hS
          have he := hok.e
          have ha := hok.a
          clear hS hu hxn
          go_wp2_with ((with_reducible refine at_dst (N := 73) rfl ?_); refine wpList_run rfl _ _ (exec_index (n32 ws) n _ rfl rfl rfl hlt hix) ?_; simp only [Act.put, List.setIfInBounds_toArray, List.set_cons_zero, List.set_cons_succ])
          go_quiet (fail)
          clear c0 c1 c2 c3 c4 c5 c6 c7
          have HSa := Lib.hid (HS.out.drewN nq)
          obtain ⟨c0, c1, c2, c3, c4, c5, c6, c7⟩ := (HS.out.drewN nq).cells
          have ck := (HS.out.drewN nq).kcell n hlt
          rw [hkn] at ck
          clear hkn
          generalize wr.drewN nq = wa at *
          clear HS
          go_wp2
          go_quiet (((go_at_call 173; exact Calls.quiet_of_same (rotl2 _ (by first | exact he | exact ha) _ _))))
          clear c0 c1 c2 c3 c4 c5 c6 c7 ck
          have HSb := Lib.hid (HSa.out.drewN nq)
          obtain ⟨c0, c1, c2, c3, c4, c5, c6, c7⟩ := (HSa.out.drewN nq).cells
          generalize wa.drewN nq = wb at *
          clear HSa
          go_wp2
          go_quiet (((go_at_call 173; exact Calls.quiet_of_same (rotl2 _ (by first | exact he | exact ha) _ _))))
          clear c0 c1 c2 c3 c4 c5 c6 c7
          have HSc := Lib.hid (HSb.out.drewN nq)
          obtain ⟨c0, c1, c2, c3, c4, c5, c6, c7⟩ := (HSb.out.drewN nq).cells
          generalize wb.drewN nq = wc at *
          clear HSb
          rw [t_val u k x hok, u_val u hok]
          obtain ⟨tt, htt⟩ : ∃ q, u.t k x = q := ⟨_, rfl⟩
          obtain ⟨uu, huu⟩ : ∃ q, u.u = q := ⟨_, rfl⟩
          have hnx : Hid (u.next k x = ⟨(tt + uu) % Sha.M, u.a, u.b, u.c, (u.d + tt) % Sha.M, u.e, u.f, u.g⟩) := by show _ = _; rw [← htt, ← huu]; rfl
          rw [htt, huu]
          clear htt huu
          obtain ⟨s1, hs1⟩ : ∃ q, (tt + uu) % Sha.M = q := ⟨_, rfl⟩
          obtain ⟨s2, hs2⟩ : ∃ q, (u.d + tt) % Sha.M = q := ⟨_, rfl⟩
          have e1 : ((tt : Int) + (uu : Int)) % 4294967296 = (s1 : Int) := by rw [← hs1, Int.natCast_emod, Int.natCast_add]; rfl
          have e2 : ((u.d : Int) + (tt : Int)) % 4294967296 = (s2 : Int) := by rw [← hs2, Int.natCast_emod, Int.natCast_add]; rfl
          have hnx2 : Hid (u.next k x = ⟨s1, u.a, u.b, u.c, s2, u.e, u.f, u.g⟩) := by show _ = _; rw [hnx.out, hs1, hs2]
          have hth := HSc.out.there
          clear hs1 hs2 hnx
          go_wp2_with ((with_reducible refine at_store (p := 9) rfl ?_); refine wpList_store_mid rfl 145 (.tmp 9) (.tmp 146) rfl B3 0 (n32 (vl ⟨s1, u.a, u.b, u.c, s2, u.e, u.f, u.g⟩)).toArray rfl rfl hth (info8 _ rfl) (all_oneCell_toArray (n32_cell _)) ?_; simp only [Act.put, List.setIfInBounds_toArray, List.set_cons_zero, List.set_cons_succ])
          refine ⟨⟨n + 1, by omega, by go_num, ?_⟩, by simp [intOf]; omega⟩
          rw [hnext.out, hnx2.out]
          exact HSc.out.put _
        · have hn64 : n = 64 := by omega
          subst hn64
          have d64 : decide (((64 : Nat) : Int) < 64) = false := decide_eq_false (by omega)
          have hfin : Hid (Sha.block v b = v.add (Sha.rounds ws v 64)) := by show _ = _; rw [Sha.block, HW.out]
          generalize Sha.rounds ws v 64 = u at *
          have hS3 : S3 w g B3 v rest T u 0 wr := S3.start hS
          clear hS hlt hn hwx hwl HW hvok
          go_wp2
          go_loopw [148] (fun t wr3 => ∃ i : Nat, i ≤ 8 ∧ t = .int .i64 i ∧ S3 w g B3 v rest T u i wr3) (fun t _ => 8 - (intOf t).toNat)
          case atStart => exact ⟨0, by omega, rfl, hS3⟩
          case round =>
            clear hS3
            obtain ⟨i, hi, rfl, hS⟩ := hrel
            by_cases hlt : i < 8
            · have d8 : decide ((i : Int) < 8) = true := decide_eq_true (by omega)
              obtain ⟨p, q, r, cg, fg, cb, hput⟩ := hS.cell hlt
              have HS := Lib.hid hput
              have b0 : (0 : Int) ≤ (i : Int) := by omega
              have b1 : (i : Int) < 8 := by omega
              clear hS hput
              go_wp2
              refine wp_region_quiet_tail 11 (by kernel_rfl) (by kernel_rfl) ?_
              simp only [List.take_succ_cons, List.take_zero, List.drop_succ_cons, List.drop_zero]
              repeat (any_goals (first | go_big_quiet_step (fail) | quiet_step (fail)))
              refine wpQuiet_nil ?_
              rintro w' ⟨nq, rfl⟩
              go_wp2
              exact ⟨⟨i + 1, by omega, by go_num, by have h9 := HS.out nq; rw [Int.natCast_emod, Int.natCast_add] at h9; exact h9⟩, by simp [intOf]; omega⟩
            · have hi8 : i = 8 := by omega
              subst hi8
              have d8 : decide (((8 : Nat) : Int) < 8) = false := decide_eq_false (by omega)
              have HS := Lib.hid hS
              clear hS hlt hi
              go_wp2
              go_end0
              exact ⟨rfl, by rw [hfin.out]; exact HS.out.h3, HS.out.fr⟩
#print axioms round256
end Go.Proofs.YtghcadbmjglidaaGreatDoor
end
section
set_option linter.unusedVariables false
namespace Go.Proofs.YtghcadbmjglidaaGreatDoor
open Go.RowKit
def hb (h0 : Sha.V) (m : List Nat) : Nat → Sha.V
  | 0 => h0
  | k + 1 => Sha.block (hb h0 m k) ((m.drop (64 * k)).take 64)
theorem hb_append (h0 : Sha.V) (m l : List Nat) : ∀ k, 64 * k ≤ m.length → hb h0 (m ++ l) k = hb h0 m k
  | 0, _ => rfl
  | k + 1, h => by
    rw [hb, hb, hb_append h0 m l k (by omega), List.drop_append_of_le_length (by omega), List.take_append_of_le_length (by simp; omega)]
structure Blk (m blk : List Nat) : Prop where
  len : blk.length = 64
  lt : ∀ x ∈ blk, x < 256
  pre : blk.take (m.length % 64) = m.drop (64 * (m.length / 64))
theorem splice_lt {α : Type} {P : α → Prop} {blk cs : List α} {o : Nat} (h1 : ∀ x ∈ blk, P x) (h2 : ∀ x ∈ cs, P x) : ∀ x ∈ splice blk o cs, P x := by
  intro x hx
  unfold splice at hx
  rcases List.mem_append.1 hx with h | h
  · exact h1 x (List.mem_of_mem_take h)
  · rcases List.mem_append.1 h with h | h
    · exact h2 x h
    · exact h1 x (List.mem_of_mem_drop h)
theorem splice_take {α : Type} (blk cs : List α) (o : Nat) (h : o + cs.length ≤ blk.length) : (splice blk o cs).take (o + cs.length) = blk.take o ++ cs := by
  unfold splice
  rw [← List.append_assoc, List.take_append_of_le_length (by simp; omega)]
  exact List.take_of_length_le (by simp; omega)
theorem Blk.more {m blk cs : List Nat} (h : Blk m blk) (hc : ∀ x ∈ cs, x < 256) (hl : m.length % 64 + cs.length < 64) : Blk (m ++ cs) (splice blk (m.length % 64) cs) := by
  refine ⟨(length_splice _ _ _ (by have := h.len; omega)).trans h.len, splice_lt h.lt hc, ?_⟩
  have e1 : (m ++ cs).length % 64 = m.length % 64 + cs.length := by simp; omega
  have e2 : (m ++ cs).length / 64 = m.length / 64 := by simp; omega
  rw [e1, e2, splice_take _ _ _ (by have := h.len; omega), h.pre, List.drop_append_of_le_length (by omega)]
theorem more_hb {m cs : List Nat} (h0 : Sha.V) (hl : m.length % 64 + cs.length < 64) : hb h0 (m ++ cs) ((m ++ cs).length / 64) = hb h0 m (m.length / 64) := by
  have e2 : (m ++ cs).length / 64 = m.length / 64 := by simp; omega
  rw [e2, hb_append _ _ _ _ (by omega)]
theorem Blk.full {m blk cs : List Nat} (h : Blk m blk) (hc : ∀ x ∈ cs, x < 256) (hl : m.length % 64 + cs.length = 64) : Blk (m ++ cs) (splice blk (m.length % 64) cs) := by
  refine ⟨(length_splice _ _ _ (by have := h.len; omega)).trans h.len, splice_lt h.lt hc, ?_⟩
  have e1 : (m ++ cs).length % 64 = 0 := by simp; omega
  have e2 : 64 * ((m ++ cs).length / 64) = (m ++ cs).length := by simp; omega
  rw [e1, e2]
  simp
theorem full_block {m blk cs : List Nat} (h : Blk m blk) (hl : m.length % 64 + cs.length = 64) : ((m ++ cs).drop (64 * (m.length / 64))).take 64 = splice blk (m.length % 64) cs := by
  have e := splice_take blk cs (m.length % 64) (by have := h.len; omega)
  have hs := length_splice blk (m.length % 64) cs (by have := h.len; omega)
  rw [hl, List.take_of_length_le (by rw [hs, h.len]; omega), h.pre] at e
  rw [e, List.drop_append_of_le_length (by omega)]
  refine List.take_of_length_le ?_
  simp
  omega
theorem full_hb {m blk cs : List Nat} (h0 : Sha.V) (h : Blk m blk) (hl : m.length % 64 + cs.length = 64) : hb h0 (m ++ cs) ((m ++ cs).length / 64) = Sha.block (hb h0 m (m.length / 64)) (splice blk (m.length % 64) cs) := by
  have e2 : (m ++ cs).length / 64 = m.length / 64 + 1 := by simp; omega
  rw [e2, hb, hb_append _ _ _ _ (by omega), full_block h hl]
theorem block_ok (v : Sha.V) (b : List Nat) : VOk (Sha.block v b) := ⟨Nat.mod_lt _ (by decide), Nat.mod_lt _ (by decide), Nat.mod_lt _ (by decide), Nat.mod_lt _ (by decide), Nat.mod_lt _ (by decide), Nat.mod_lt _ (by decide), Nat.mod_lt _ (by decide), Nat.mod_lt _ (by decide)⟩
theorem hb_ok {h0 : Sha.V} (h : VOk h0) (m : List Nat) : ∀ k, VOk (hb h0 m k)
  | 0 => h
  | k + 1 => block_ok _ _
theorem n32_vl (v : Sha.V) : n32 (vl v) = [.int .u32 v.a, .int .u32 v.b, .int .u32 v.c, .int .u32 v.d, .int .u32 v.e, .int .u32 v.f, .int .u32 v.g, .int .u32 v.h] := rfl
theorem n8_splice (blk cs : List Nat) (o : Nat) : n8 (splice blk o cs) = splice (n8 blk) o (n8 cs) := by
  simp [splice, List.map_take, List.map_drop]
theorem splice_mid {α : Type} (pre mid suf cs : List α) (o : Nat) (h : o + cs.length ≤ mid.length) : splice (pre ++ (mid ++ suf)) (pre.length + o) cs = pre ++ (splice mid o cs ++ suf) := by
  unfold splice
  rw [List.take_append, List.take_of_length_le (by omega), show pre.length + o - pre.length = o by omega, List.take_append_of_le_length (by omega),
    List.drop_append, show List.drop (pre.length + o + cs.length) pre = [] from List.drop_eq_nil_of_le (by omega), show pre.length + o + cs.length - pre.length = o + cs.length by omega, List.drop_append_of_le_length (by omega)]
  simp
end Go.Proofs.YtghcadbmjglidaaGreatDoor
end
section
set_option linter.unusedVariables false
namespace Go.Proofs.YtghcadbmjglidaaGreatDoor
open Go.RowKit
abbrev fR256 : Value := .func (.func 153) #[] #[]
def stc (h0 : Sha.V) (m blk : List Nat) : List Value := n32 (vl (hb h0 m (m.length / 64))) ++ (n8 blk ++ [.int .u64 m.length, fR256])
def SSt (h0 : Sha.V) (T : TypeId) (g : Nat) (m : List Nat) (w : World) : Prop := ∃ blk, Blk m blk ∧ w.heap[g]? = some (.cells (stc h0 m blk).toArray T (0, 0))
def Src (g : Nat) (w : World) (sp : Option Addr) (l : List Nat) : Prop := 0 < l.length → ∃ ad, sp = some ad ∧ ad.block ≠ g ∧ ∀ j v, (n8 l)[j]? = some v → w.cell? (ad.add j) = some v
theorem add_block (a : Addr) (n : Nat) : (a.add n).block = a.block := by unfold Addr.add; split <;> rfl
def sliceLen : Value → Nat
  | .slice _ n _ => n
  | _ => 0
theorem stc_n (h0 : Sha.V) (m blk : List Nat) (h : blk.length = 64) : (stc h0 m blk)[72]? = some (.int .u64 m.length) := by
  unfold stc
  rw [n32_vl, List.getElem?_append_right (by simp), List.getElem?_append_right (by simp [h])]
  simp [h]
theorem stc_f (h0 : Sha.V) (m blk : List Nat) (h : blk.length = 64) : (stc h0 m blk)[73]? = some fR256 := by
  unfold stc
  rw [n32_vl, List.getElem?_append_right (by simp), List.getElem?_append_right (by simp [h])]
  simp [h]
theorem stc_len (h0 : Sha.V) (m blk : List Nat) (h : blk.length = 64) : (stc h0 m blk).length = 74 := by
  unfold stc
  rw [n32_vl]
  simp [h]
theorem stc_at72 (v : Sha.V) (blk : List Nat) (x f : Value) (h : blk.length = 64) : (n32 (vl v) ++ (n8 blk ++ [x, f]))[72]? = some x := by
  rw [n32_vl, List.getElem?_append_right (by simp), List.getElem?_append_right (by simp [h])]
  simp [h]
theorem stc_put {T : TypeId} {g : Nat} {w : World} (v : Sha.V) (blk : List Nat) (x f : Value) (h : blk.length = 64) (y : Value) (hg : w.heap[g]? = some (.cells (n32 (vl v) ++ (n8 blk ++ [x, f])).toArray T (0, 0))) :
    (w.setCell ⟨g, 72, none⟩ y).heap[g]? = some (.cells (n32 (vl v) ++ (n8 blk ++ [y, f])).toArray T (0, 0)) := by
  have h1 := heap_setCell (j := 72) hg y
  rw [h1]
  rw [n32_vl, List.setIfInBounds_toArray, List.set_append_right _ _ (by simp), List.set_append_right _ _ (by simp [h])]
  simp [h]
theorem stc_at73 (v : Sha.V) (blk : List Nat) (x f : Value) (h : blk.length = 64) : (n32 (vl v) ++ (n8 blk ++ [x, f]))[73]? = some f := by
  rw [n32_vl, List.getElem?_append_right (by simp), List.getElem?_append_right (by simp [h])]
  simp [h]
theorem range_mid {T : TypeId} {g : Nat} {w : World} (v : Sha.V) (blk : List Nat) (suf : List Value) (hg : w.heap[g]? = some (.cells (n32 (vl v) ++ (n8 blk ++ suf)).toArray T (0, 0))) (n : Nat) : (w.drewN n).rangeAt g 8 (n8 blk) := fun j y hy => by
  show (w.drewN n).cell? ⟨g, 8 + j, none⟩ = _
  rw [cell_of_row (w.drewN n) g (8 + j) _ _ _ hg, List.getElem?_toArray, n32_vl, List.getElem?_append_right (by simp), List.getElem?_append_left (by have := (List.getElem?_eq_some_iff.1 hy).1; simp at this ⊢; omega)]
  simpa using hy
theorem wpQuiet_load_mid {P : Program} {ops : Array Oper} {C : World → Prop} {Q : Act → Prop} {rest : List Oper} {op : Oper} {a : Act} (hgd : op.guard = none) (ty : TypeId) (x : Operand) (ho : op.op = .load ty x)
    (b o : Nat) (hx : a.eval x = .pointer (some ⟨b, o, none⟩)) (cs : List Value) (d : TypeDesc) (hS : ∀ w, C w → w.rangeAt b o cs)
    (hu : P.underlying ty = some d) (hd : d.isRow = true) (hi : (P.info? ty).map (·.size) = some cs.length)
    (h : wpQuiet P ops C Q rest (a.put op.dst (.agg cs.toArray))) : wpQuiet P ops C Q (op :: rest) a :=
  BigFrame.wpQuiet_want (by simp [Region.wanted, hgd]) fun K hK => ⟨.agg cs.toArray, fun w hw => by
    unfold Oper.quietAt execOp
    simp only [ho, hx, Instr.loadAt, Instr.sureAddr, Sem.run_bind, Sem.run_pure, Result.andThen_ok, run_loadVar_mid w b o ty cs d (hS w hw) hu hd hi]
    exact ⟨rfl, rfl⟩, hK _ h⟩
theorem wpList_copy_fr {P : Program} {w : World} {ops : Array Oper} {rest : List Oper} {o : Oper} {a : Act} {Q : Exit → Act → World → Prop} (hgd : o.guard = none) (d s : Operand) (dT sT : TypeId)
    (ho : o.op = .call { callee := .builtin .copy, args := #[d, s], argTypes := #[dT, sT] }) (elem : TypeId) (hu : P.underlying dT = some (.slice elem)) (hsz : (P.info? elem).map (·.size) = some 1)
    (g off dLen dCap : Nat) (ad : Addr) (sLen sCap : Nat) (hd : a.eval d = .slice (some ⟨g, off, none⟩) dLen dCap) (hs : a.eval s = .slice (some ad) sLen sCap)
    (cur : List Value) (t : TypeId) (hg : w.heap[g]? = some (.cells cur.toArray t (0, 0))) (cs : List Value) (hn : cs.length = Nat.min sLen dLen)
    (hsrc : ∀ j v, cs[j]? = some v → w.cell? (ad.add j) = some v)
    (hfit : off + cs.length ≤ cur.length) (h1 : ∀ v ∈ cs, v.oneCell' = true)
    (h : ∀ w', Hid (w'.heap[g]? = some (.cells (splice cur off cs).toArray t (0, 0))) → Fr (fun k => k = g) w w' → wpList P ops Q rest (a.put o.dst (goInt cs.length)) w') :
    wpList P ops Q (o :: rest) a w := by
  refine wpList_copy_own hgd d s dT sT ho elem hu hsz g off dLen dCap ad sLen sCap hd hs cur.toArray t hg cs hn hsrc (by simpa using hfit) h1 ?_
  exact h _ (show _ = _ by simpa [splice] using setRow_heap w g _ _ t _ hg) ⟨rfl, rfl, rfl, by simp [World.setRow], fun k _ hk => setRow_other w g k _ hk⟩
set_option maxHeartbeats 4000000 in
theorem add256 (h0 : Sha.V) (hv : VOk h0) (T : TypeId) (g : Nat) (m l : List Nat) (sp : Option Addr) (cap : Nat) (hcap : l.length ≤ cap) (hx : ∀ x ∈ l, x < 256) (hl : m.length + l.length < 2 ^ 63) (w : World) (hst : SSt h0 T g m w) (hs : Src g w sp l) :
    Calls Tryz.prog 107 #[.pointer (some ⟨g, 0, none⟩), .slice sp l.length cap] w fun e w' => e = .returned (.tuple #[]) ∧ SSt h0 T g (m ++ l) w' ∧ Fr (fun k => k = g) w w' := by
  go_enter Tryz.func107, Tryz.ntmps107
  go_wp2
  go_loopw [1] (fun t wr => ∃ (d r : List Nat) (sp : Option Addr) (cap : Nat), l = d ++ r ∧ t = .slice sp r.length cap ∧ r.length ≤ cap ∧ SSt h0 T g (m ++ d) wr ∧ Src g w sp r ∧ Fr (fun k => k = g) w wr) (fun t _ => sliceLen t)
  case atStart => exact ⟨[], l, sp, cap, rfl, rfl, hcap, by simpa using hst, hs, Fr.refl _ _⟩
  case round =>
    clear hst hs hcap
    obtain ⟨d, r, sp, cap, rfl, rfl, hcap, ⟨blk, hB, hH⟩, hS, hF⟩ := hrel
    obtain ⟨M, hM⟩ : ∃ M, m ++ d = M := ⟨_, rfl⟩
    rw [hM] at hB hH
    have hlen : M.length + r.length < 2 ^ 63 := by rw [← hM]; simp at hl ⊢; omega
    by_cases hr : r.length = 0
    · have d0 : decide ((0 : Int) < (r.length : Int)) = false := decide_eq_false (by omega)
      have HH := Lib.hid hH
      have HF := Lib.hid hF
      clear hH hF
      go_wp2
      go_end0
      exact ⟨rfl, by
        obtain rfl : r = [] := List.eq_nil_of_length_eq_zero hr
        rw [List.append_nil, hM]
        exact ⟨blk, hB, HH.out⟩, HF.out⟩
    · have d0 : decide ((r.length : Int) > 0) = true := decide_eq_true (by omega)
      obtain ⟨q, hq⟩ : ∃ q, M.length % 64 = q := ⟨_, rfl⟩
      obtain ⟨r1, r2, c, h12, hc, hc0, hcq, hce⟩ : ∃ (r1 r2 : List Nat) (c : Nat), Hid (r = r1 ++ r2) ∧ r1.length = c ∧ 0 < c ∧ q + c ≤ 64 ∧ (q + c < 64 → r2 = []) :=
        ⟨r.take (64 - q), r.drop (64 - q), _, (show _ = _ from (List.take_append_drop _ _).symm), rfl, by simp; omega, by simp; omega, fun h => List.drop_eq_nil_of_le (by simp at h; omega)⟩
      have hcr : r1.length + r2.length = r.length := by rw [h12.out, List.length_append]
      have hx1 : Hid (∀ x ∈ r1, x < 256) := show ∀ x ∈ r1, x < 256 from fun x hx' => hx x (List.mem_append.2 (.inr (by rw [h12.out]; exact List.mem_append.2 (.inl hx'))))
      have q0 : (0 : Int) ≤ (M.length : Int) % 64 := by omega
      have q1 : (M.length : Int) % 64 ≤ 64 := by omega
      have q2 : ¬ (64 : Nat) = ((M.length : Int) % 64).toNat := by omega
      have hn : wr.cell? ⟨g, 72, none⟩ = some (.int .u64 M.length) := (cell_of_row _ _ 72 _ _ _ hH).trans (by rw [List.getElem?_toArray]; exact stc_n h0 M blk hB.len)
      have hf : wr.cell? ⟨g, 73, none⟩ = some fR256 := (cell_of_row _ _ 73 _ _ _ hH).trans (by rw [List.getElem?_toArray]; exact stc_f h0 M blk hB.len)
      have HH := Lib.hid hH
      have HF := Lib.hid hF
      clear hH hF
      obtain ⟨ad, rfl, hag, hsrc'⟩ := hS (by omega)
      have hsrc := Lib.hid hsrc'
      have HSrc := Lib.hid hS
      clear hS hsrc'
      go_wp2
      refine wp_region_quiet_tail 10 (by kernel_rfl) (by kernel_rfl) ?_
      simp only [List.take_succ_cons, List.take_zero, List.drop_succ_cons, List.drop_zero]
      repeat (any_goals (first | go_big_quiet_step (fail) | quiet_step (fail)))
      refine wpQuiet_nil ?_
      rintro w' ⟨nq, rfl⟩
      have hs8 : Hid (splice (stc h0 M blk) (8 + M.length % 64) (n8 r1) = n32 (vl (hb h0 M (M.length / 64))) ++ (n8 (splice blk q r1) ++ [.int .u64 M.length, fR256])) := by
        show _ = _
        rw [hq, n8_splice]
        exact splice_mid (n32 (vl (hb h0 M (M.length / 64)))) (n8 blk) _ _ q (by rw [List.length_map, List.length_map, hB.len]; omega)
      refine wpList_copy_fr rfl (.tmp 16) (.tmp 17) 37 37 rfl 5 (by kernel_rfl) (by kernel_rfl) g (8 + M.length % 64) _ _ ad _ _ rfl rfl (stc h0 M blk) T HH.out (n8 r1) ?_ ?_ ?_ ?_ ?_
      · rw [List.length_map, hc, hq]
        by_cases h : q + c < 64
        · rw [hce h] at hcr
          rw [show r.length = c by simp at hcr; omega]
          exact (Nat.min_eq_left (by omega)).symm
        · exact (by omega : c = 64 - q).trans (Nat.min_eq_right (by omega)).symm
      · intro j v hv
        refine HF.out.cell (hsrc.out j v ?_) (by rw [add_block]; exact hag)
        rw [h12.out]
        unfold n8 at hv ⊢
        rw [List.map_append, List.getElem?_append_left (List.getElem?_eq_some_iff.1 hv).1]
        exact hv
      · rw [List.length_map, hc, hq, stc_len h0 M blk hB.len]
        omega
      · intro v hv
        obtain ⟨x, _, rfl⟩ := List.mem_map.1 hv
        rfl
      intro w2 HG' hF2
      have hb' : Hid (Blk (M ++ r1) (splice blk q r1)) := show Blk _ _ from by
        rw [← hq]
        by_cases h : q + c < 64
        · exact hB.more hx1.out (by omega)
        · exact hB.full hx1.out (by omega)
      have HG := Lib.hid (hs8.out ▸ HG'.out)
      have HF3 := Lib.hid ((HF.out.drewN nq).then_ hF2 (fun k _ h => h))
      rw [show ((n8 r1).length : Int) = (c : Int) by rw [List.length_map, hc]]
      clear HG' hs8
      have hn2 : w2.cell? ⟨g, 72, none⟩ = some (.int .u64 M.length) := (cell_of_row _ _ 72 _ _ _ HG.out).trans (by rw [List.getElem?_toArray]; exact stc_at72 _ _ _ _ hb'.out.len)
      have hz2 : w2.frozen? ⟨g, 72, none⟩ = false := by simp [World.frozen?, HG.out]
      have HG2 := Lib.hid (stc_put _ _ _ _ hb'.out.len (.int .u64 ((M.length : Int) + c)) HG.out)
      have HF2 := Lib.hid (HF3.out.setCell ⟨g, 72, none⟩ (.int .u64 ((M.length : Int) + c)) (fun _ => rfl))
      have hfin : ∀ W, SSt h0 T g (m ++ (d ++ r1)) W → Fr (fun k => k = g) w W → ∃ (d_1 r_1 : List Nat) (sp : Option Addr) (cap_1 : Nat), d ++ r = d_1 ++ r_1 ∧ Value.slice (if cap = c then some ad else some (ad.add c)) (r.length - c) (cap - c) = Value.slice sp r_1.length cap_1 ∧ r_1.length ≤ cap_1 ∧ SSt h0 T g (m ++ d_1) W ∧ Src g w sp r_1 ∧ Fr (fun k => k = g) w W := by
        intro W hW1 hW2
        refine ⟨d ++ r1, r2, _, cap - c, by rw [h12.out, List.append_assoc], by rw [show r.length - c = r2.length by omega], by omega, hW1, fun h0 => ⟨ad.add c, if_neg (by omega), (by rw [add_block]; exact hag), fun j v hv => ?_⟩, hW2⟩
        rw [Addr.add_add]
        refine hsrc.out (c + j) v ?_
        rw [h12.out]
        unfold n8 at hv ⊢
        rw [List.map_append, List.getElem?_append_right (by simp [hc]), List.length_map, hc, show c + j - c = j by omega]
        exact hv
      have HM := Lib.hid hM
      clear hM
      by_cases hfull : q + c = 64
      · have d1 : ((M.length : Int) + (c : Int)) % 64 = 0 := by omega
        obtain ⟨W, hW⟩ : ∃ W, w2.setCell ⟨g, 72, none⟩ (.int .u64 ((M.length : Int) + c)) = W := ⟨_, rfl⟩
        have HGW := Lib.hid (hW ▸ HG2.out)
        have HFW := Lib.hid (hW ▸ HF2.out)
        clear HG2 HF2
        have hn3 : W.cell? ⟨g, 72, none⟩ = some (.int .u64 ((M.length : Int) + c)) := (cell_of_row _ _ 72 _ _ _ HGW.out).trans (by rw [List.getElem?_toArray]; exact stc_at72 _ _ _ _ hb'.out.len)
        have hf3 : W.cell? ⟨g, 73, none⟩ = some fR256 := (cell_of_row _ _ 73 _ _ _ HGW.out).trans (by rw [List.getElem?_toArray]; exact stc_at73 _ _ _ _ hb'.out.len)
        have hr3 : Hid (∀ n, (W.drewN n).rangeAt g 8 (n8 (splice blk q r1))) := show ∀ n, _ from fun n => range_mid _ _ _ HGW.out n
        have hsst : Hid (∀ W', W'.heap[g]? = some (.cells (n32 (vl (Sha.block (hb h0 M (M.length / 64)) (splice blk q r1))) ++ (n8 (splice blk q r1) ++ [.int .u64 ((M.length : Int) + c), fR256])).toArray T (0, 0)) → SSt h0 T g (m ++ (d ++ r1)) W') := show ∀ W', _ from fun W' h => by
          refine ⟨splice blk q r1, ?_, ?_⟩
          · rw [← List.append_assoc, HM.out]; exact hb'.out
          · rw [← List.append_assoc, HM.out, h, stc]
            have := full_hb h0 hB (cs := r1) (by omega)
            rw [hq] at this
            rw [this, List.length_append, hc]
            rfl
        by_cases hcc : cap = c
        all_goals
          go_wp2
          refine wp_region_quiet_tail 11 (by kernel_rfl) (by kernel_rfl) ?_
          simp only [List.take_succ_cons, List.take_zero, List.drop_succ_cons, List.drop_zero]
          repeat (any_goals (first | (refine wpQuiet_load_mid rfl 146 (.tmp 46) rfl g 8 rfl (n8 (splice blk q r1)) _ (by rintro w' ⟨n, rfl⟩; exact hr3.out n) Tryz.underlying146 rfl (load_b64 _ hb'.out.len) ?_; simp only [Act.put, List.setIfInBounds_toArray, List.set_cons_zero, List.set_cons_succ]) | go_big_quiet_step (fail) | quiet_step (fail)))
          refine wpQuiet_nil ?_
          rintro w' ⟨nq, rfl⟩
          go_wp2_with fail
          refine (round256 g (hb h0 M (M.length / 64)) (splice blk q r1) (n8 (splice blk q r1) ++ [.int .u64 ((M.length : Int) + c), fR256]) T hb'.out.len hb'.out.lt (hb_ok hv M _) (W.drewN nq) HGW.out).mono ?_
          rintro e w1 ⟨rfl, hg1, hF1⟩
          have hfin' := hfin w1 (hsst.out w1 hg1) ((HFW.out.drewN nq).then_ hF1 (fun k _ h => h))
          go_wp2
          go_roundw
          case rel => simpa only [hcc, if_true, if_false, Nat.sub_self] using hfin'
          case measure => simp only [sliceLen]; omega
      · have d1 : ¬ ((M.length : Int) + (c : Int)) % 64 = 0 := by omega
        go_wp2
        go_roundw
        case rel =>
          refine hfin _ ⟨splice blk q r1, ?_, ?_⟩ HF2.out
          · rw [← List.append_assoc, HM.out]; exact hb'.out
          · rw [← List.append_assoc, HM.out, HG2.out, stc, more_hb h0 (by omega), List.length_append, hc]
            rfl
        case measure => simp only [sliceLen]; omega
#print axioms add256
end Go.Proofs.YtghcadbmjglidaaGreatDoor
end
section
set_option linter.unusedVariables false
namespace Go.Proofs.YtghcadbmjglidaaGreatDoor
open Go.RowKit
def blk0 : List Nat := List.replicate 64 0
theorem blk0_ok : Blk [] blk0 := ⟨rfl, by decide, rfl⟩
theorem info_st : (Tryz.prog.info? 149).map (·.size) = some 74 := by kernel_rfl
theorem zst_size : Tryz.zeroCells149.size = 74 := by kernel_rfl
theorem st0_eq : (((((((((Tryz.zeroCells149.setIfInBounds 0 (Value.int IntKind.u32 1779033703)).setIfInBounds 1 (Value.int IntKind.u32 3144134277)).setIfInBounds 2 (Value.int IntKind.u32 1013904242)).setIfInBounds 3 (Value.int IntKind.u32 2773480762)).setIfInBounds 4 (Value.int IntKind.u32 1359893119)).setIfInBounds 5 (Value.int IntKind.u32 2600822924)).setIfInBounds 6 (Value.int IntKind.u32 528734635)).setIfInBounds 7 (Value.int IntKind.u32 1541459225)).setIfInBounds 73 fR256) = (stc Sha.V0 [] blk0).toArray := by kernel_rfl
theorem stc_one (h0 : Sha.V) (m blk : List Nat) : ∀ v ∈ stc h0 m blk, v.oneCell' = true := by
  intro v hv
  unfold stc at hv
  rcases List.mem_append.1 hv with h | h
  · exact n32_cell _ v h
  · rcases List.mem_append.1 h with h | h
    · obtain ⟨x, _, rfl⟩ := List.mem_map.1 h
      rfl
    · rcases List.mem_cons.1 h with rfl | h
      · rfl
      · obtain rfl := List.mem_singleton.1 h
        rfl
theorem st_new {w : World} {g : Nat} {cs : List Value} {T : TypeId} (vs : List Value) (h : w.heap[g]? = some (.cells cs.toArray T (0, 0))) (hl : vs.length = cs.length) : (w.setCells g 0 vs).heap[g]? = some (.cells vs.toArray T (0, 0)) := by
  have := setCells_block g T vs [] cs w h hl
  simpa using this
theorem results_cell {P : Program} {fn : Func} {p : Tmp} {ty : TypeId} (h : fn.results = #[.cell p ty]) (tmps : Array Value) (w : World) (ad : Addr) (hp : tmps.getD p undef = .pointer (some ad)) {v : Value} (hl : (loadVar ty ad).run P w = .ok v w) : (results fn tmps).run P w = .ok v w := by
  simp only [results, h]
  simp only [Array.getD_eq_getD_getElem?] at hp
  simp [Sem.run_bind, hp, asAddr, hl, Result.andThen]
theorem load_st (h0 : Sha.V) (m blk : List Nat) (h : blk.length = 64) : (Tryz.prog.info? 149).map (·.size) = some (stc h0 m blk).length := by rw [stc_len _ _ _ h]; exact info_st
set_option maxHeartbeats 4000000 in
theorem start256 (w : World) :
    Calls Tryz.prog 106 #[] w fun e w' => e = .returned (.agg (stc Sha.V0 [] blk0).toArray) ∧ Fr (fun k => False) w w' := by
  go_enter Tryz.func106, Tryz.ntmps106
  have hz : (w.alloc (.cells Tryz.zeroCells149 149)).heap[w.heap.size]? = some (.cells Tryz.zeroCells149.toList.toArray 149 (0, 0)) := heap_alloc_new w _
  have hfin := st_new (stc Sha.V0 [] blk0) hz (by rw [stc_len _ _ _ rfl, Array.length_toList, zst_size])
  have HF := Lib.hid (Fr.setCells (M := fun _ => False) (Fr.refl _ w) w.heap.size (fun h => by omega) (stc Sha.V0 [] blk0) 0 _ ((Fr.refl _ w).alloc (.cells Tryz.zeroCells149 149)))
  generalize hW : (w.alloc (.cells Tryz.zeroCells149 149)).setCells w.heap.size 0 (stc Sha.V0 [] blk0) = W at *
  have hr := Lib.hid (range_of hfin)
  clear hfin
  go_wp2_with (first
    | ((with_reducible refine at_store (p := 0) rfl ?_); go_loud (refine wpList_store_mid rfl 149 (.tmp 0) (.tmp 2) rfl w.heap.size 0 (stc Sha.V0 [] blk0).toArray rfl (congrArg Value.agg st0_eq) (there_of hz (by rw [Array.toArray_toList, zst_size]; decide)) info_st (all_oneCell_toArray (stc_one _ _ _)) ?_); rw [List.toList_toArray, hW]; clear hW hz))
  refine ⟨rfl, .agg (stc Sha.V0 [] blk0).toArray, results_cell (p := 0) (ty := 149) (by kernel_rfl) _ _ ⟨w.heap.size, 0, none⟩ rfl (run_loadVar_mid _ _ _ _ _ _ hr.out Tryz.underlying149 rfl (load_st _ _ _ rfl)), rfl, HF.out⟩
end Go.Proofs.YtghcadbmjglidaaGreatDoor
end
section
set_option linter.unusedVariables false
namespace Go.Proofs.YtghcadbmjglidaaGreatDoor
open Go.RowKit
theorem clk_ret_bool {a b : Bool} (h : a = b) : Ending.returned (.bool a) = .returned (.bool b) := by rw [h]
set_option maxHeartbeats 1000000 in
theorem clk_leap (y : Int) (h0 : 0 ≤ y) (h1 : y ≤ 100000) (w : World) :
    Calls Tryz.prog 138 #[.int .i64 y] w fun e w' => e = .returned (.bool (Clk.lp y)) ∧ w = w' := by
  go_enter Tryz.func138, Tryz.ntmps138
  by_cases a : y % 4 = 0
  · by_cases b : y % 100 = 0
    · go_wp2
      go_ret
      refine ⟨clk_ret_bool ?_, rfl⟩
      by_cases c : y % 400 = 0 <;> simp [Clk.lp, a, b, c]
    · go_wp2
      go_ret
      refine ⟨clk_ret_bool ?_, rfl⟩
      simp [Clk.lp, a, b]
  · go_wp2
    go_ret
    refine ⟨clk_ret_bool ?_, rfl⟩
    simp [Clk.lp, a]
abbrev zi (l : List Int) : List Value := l.map fun n => .int .i64 n
theorem clk_u13 : (Tryz.prog.info? 124).map (·.size) = some 13 := by kernel_rfl
theorem clk_end {w W : World} {tmps : Array Value} {l : List Int} {lb : Bool} (hl : l = Clk.bg lb) (hp : tmps.getD 2 undef = .pointer (some ⟨w.heap.size, 0, none⟩)) (hW : W.heap[w.heap.size]? = some (.cells (zi l).toArray 124 (0, 0))) (hF : Fr (fun _ => False) w W) :
    bodyPost Tryz.prog Tryz.f90 (fun e w' => e = Ending.returned (.agg (zi (Clk.bg lb)).toArray) ∧ Fr (fun _ => False) w w') .ret { tmps := tmps, defers := [] } W :=
  ⟨rfl, .agg (zi l).toArray, results_cell (p := 2) (ty := 124) (by kernel_rfl) _ _ ⟨w.heap.size, 0, none⟩ hp (run_loadVar_mid _ _ _ _ _ _ (range_of hW) Tryz.underlying124 rfl (by rw [clk_u13, List.length_map, hl]; cases lb <;> rfl)), by rw [hl], hF⟩
set_option maxHeartbeats 4000000 in
theorem clk_begins_no (y : Int) (h0 : 0 ≤ y) (h1 : y ≤ 100000) (hl : Clk.lp y = false) (w : World) :
    Calls Tryz.prog 90 #[.int .i64 y] w fun e w' => e = .returned (.agg (zi (Clk.bg false)).toArray) ∧ Fr (fun _ => False) w w' := by
  go_enter Tryz.func90, Tryz.ntmps90
  go_wp2_with (go_at_call 138; refine (clk_leap y h0 h1 _).mono ?_; rintro e w' ⟨rfl, rfl⟩; rw [hl])
  exact clk_end (l := [0, 31, 59, 90, 120, 151, 181, 212, 243, 273, 304, 334, 365]) rfl rfl ((Below.heap_alloc _ _ _ (by simp)).trans (heap_alloc_new w _)) (((Fr.refl _ _).alloc _).alloc _)
set_option maxHeartbeats 8000000 in
set_option maxRecDepth 100000 in
theorem clk_begins_yes (y : Int) (h0 : 0 ≤ y) (h1 : y ≤ 100000) (hl : Clk.lp y = true) (w : World) :
    Calls Tryz.prog 90 #[.int .i64 y] w fun e w' => e = .returned (.agg (zi (Clk.bg true)).toArray) ∧ Fr (fun _ => False) w w' := by
  go_enter Tryz.func90, Tryz.ntmps90
  go_wp2_with (go_at_call 138; refine (clk_leap y h0 h1 _).mono ?_; rintro e w' ⟨rfl, rfl⟩; rw [hl])
  refine wp_loop_rounds 14 ?_
  repeat (rw [rounds_succ]; go_wp2)
  exact clk_end (l := [0, 31, 60, 91, 121, 152, 182, 213, 244, 274, 305, 335, 366]) rfl rfl ((Below.heap_alloc _ _ _ (by simp)).trans (heap_alloc_new w _)) (((Fr.refl _ _).alloc _).alloc _)
theorem clk_begins (y : Int) (h0 : 0 ≤ y) (h1 : y ≤ 100000) (w : World) :
    Calls Tryz.prog 90 #[.int .i64 y] w fun e w' => e = .returned (.agg (zi (Clk.bg (Clk.lp y))).toArray) ∧ Fr (fun _ => False) w w' := by
  cases hl : Clk.lp y
  · exact clk_begins_no y h0 h1 hl w
  · exact clk_begins_yes y h0 h1 hl w
end Go.Proofs.YtghcadbmjglidaaGreatDoor
end
section
set_option linter.unusedVariables false
namespace Go.Proofs.YtghcadbmjglidaaGreatDoor
open Go.RowKit
theorem pw_drew {B : Nat} {w W : World} (h : Below B w W) (n : Nat) : Below B w (W.drewN n) := ⟨h.os, h.tape, h.output, h.size, h.block⟩
set_option maxHeartbeats 4000000 in
theorem clk_civil_no (day : Int) (h : day < -719162 ∨ 2932896 < day) (w : World) :
    Calls Tryz.prog 55 #[.int .i64 day] w fun e w' => e = .returned (.tuple #[.int .i64 0, .int .i64 0, .int .i64 0]) ∧ Below w.heap.size w w' := by
  rcases h with h | h
  · go_enter Tryz.func55, Tryz.ntmps55
    go_wp2
    go_ret3
    exact ⟨rfl, Below.refl _ _⟩
  · have h' : ¬ day < -719162 := by omega
    go_enter Tryz.func55, Tryz.ntmps55
    go_wp2
    go_ret3
    exact ⟨rfl, Below.refl _ _⟩
theorem clk_cell {w W : World} {b : Bool} {g : Nat} (hW : W.heap[g]? = some (.cells (zi (Clk.bg b)).toArray 124 (0, 0))) (j : Nat) (hj : j < 13) : W.cell? ⟨g, j, none⟩ = some (.int .i64 ((Clk.bg b).getD j 0)) := by
  rw [cell_of_row _ _ _ _ _ _ hW]
  have hl : (Clk.bg b).length = 13 := by cases b <;> rfl
  simp [zi, hl, hj]
theorem clk_bgb (b : Bool) : ∀ j, j < 13 → 0 ≤ (Clk.bg b).getD j 0 ∧ (Clk.bg b).getD j 0 ≤ 366 := by
  intro j hj
  match j, hj with
  | 0, _ | 1, _ | 2, _ | 3, _ | 4, _ | 5, _ | 6, _ | 7, _ | 8, _ | 9, _ | 10, _ | 11, _ | 12, _ => cases b <;> decide
set_option maxHeartbeats 4000000 in
theorem clk_civil_yes (day : Int) (h0 : -719162 ≤ day) (h1 : day ≤ 2932896) (w : World) :
    Calls Tryz.prog 55 #[.int .i64 day] w fun e w' => e = .returned (.tuple #[.int .i64 (Clk.civ day).1, .int .i64 (Clk.civ day).2.1, .int .i64 (Clk.civ day).2.2]) ∧ Below w.heap.size w w' := by
  have hyk := Clk.yr_ok (day + 719162) (by omega) (by omega)
  have hmk := Clk.mfrom_ok (Clk.lp (Clk.yr (day + 719162))) (Clk.dy (day + 719162)) hyk.2.2.2.1 hyk.2.2.2.2.1 hyk.2.2.2.2.2
  have hciv := Lib.hid (show Clk.civ day = (Clk.yr (day + 719162), (Clk.mfrom (Clk.bg (Clk.lp (Clk.yr (day + 719162)))) (Clk.dy (day + 719162)) 12 1 : Int), Clk.dy (day + 719162) - (Clk.bg (Clk.lp (Clk.yr (day + 719162)))).getD (Clk.mfrom (Clk.bg (Clk.lp (Clk.yr (day + 719162)))) (Clk.dy (day + 719162)) 12 1 - 1) 0 + 1) from if_neg (by omega))
  obtain ⟨n, hn⟩ : ∃ n, day + 719162 = n := ⟨_, rfl⟩
  have hn0 : 0 ≤ n := by omega
  have hn1 : n ≤ 3652058 := by omega
  rw [hn] at hyk hmk hciv
  have hE : Clk.yr n = 400 * Clk.cq n + (100 * Clk.cc n + 4 * Clk.c4 n + Clk.ca n + 1) := rfl
  have hD : Clk.dy n = Clk.c5 n - Clk.ca n * 365 := rfl
  have hq : n / 146097 = Clk.cq n := rfl
  have hr : n % 146097 = Clk.cr n := rfl
  have hu : Clk.cr n - Clk.cc n * 36524 = Clk.c2 n := rfl
  have hv : Clk.c2 n / 1461 = Clk.c4 n := rfl
  have hx : Clk.c2 n % 1461 = Clk.c5 n := rfl
  have hc : (Clk.cr n / 36524 = Clk.cc n ∧ Clk.cc n ≤ 3) ∨ (Clk.cc n = 3 ∧ 3 < Clk.cr n / 36524) := by unfold Clk.cc; split <;> omega
  have ha : (Clk.c5 n / 365 = Clk.ca n ∧ Clk.ca n ≤ 3) ∨ (Clk.ca n = 3 ∧ 3 < Clk.c5 n / 365) := by unfold Clk.ca; split <;> omega
  obtain ⟨y1, y2, y3, y4, y5, y6⟩ := hyk
  obtain ⟨m1, m2, m3, m4⟩ := hmk
  generalize Clk.cq n = q at *
  generalize Clk.cr n = r at *
  generalize Clk.c2 n = u at *
  generalize Clk.c4 n = v at *
  generalize Clk.c5 n = x at *
  generalize Clk.cc n = c at *
  generalize Clk.ca n = a at *
  generalize Clk.yr n = Y at *
  generalize Clk.dy n = D at *
  have b1 : 0 ≤ q ∧ q ≤ 24 := by omega
  have b2 : 0 ≤ r ∧ r < 146097 := by omega
  have b3 : 0 ≤ c ∧ c ≤ 3 := by omega
  have b4 : 0 ≤ u ∧ u ≤ 36524 := by omega
  have b5 : 0 ≤ v ∧ v ≤ 24 := by omega
  have b6 : 0 ≤ x ∧ x < 1461 := by omega
  have b7 : 0 ≤ a ∧ a ≤ 3 := by omega
  have hE' := hE.symm
  have hD' := hD.symm
  clear hE hD y3
  have y7 : D < (Clk.bg (Clk.lp Y)).getD 12 0 := by
    rw [Clk.bg_12]
    cases hl : Clk.lp Y
    · have := y6 hl; simpa using this
    · simpa using y5
  generalize hb : Clk.lp Y = b at *
  have HB := Lib.hid hb
  clear hb
  obtain ⟨m, hm⟩ : ∃ m, Clk.mfrom (Clk.bg b) D 12 1 = m := ⟨_, rfl⟩
  have HM := Lib.hid hm
  rw [hm] at m1 m2 m3 m4 hciv
  clear hm y6
  have hbeg := fun w => clk_begins Y (by omega) (by omega) w
  rw [HB.out] at hbeg
  have HS : ∀ j : Nat, j < 13 → (Clk.bg b).getD j 0 ≤ D → Hid (Clk.mfrom (Clk.bg b) D (13 - j) j = Clk.mfrom (Clk.bg b) D (13 - (j + 1)) (j + 1)) := fun j h1 h2 => by
    show _ = _
    rw [show 13 - j = (13 - (j + 1)) + 1 by omega, Clk.mfrom, if_pos h2]
  have HT : ∀ j : Nat, j < 13 → ¬ (Clk.bg b).getD j 0 ≤ D → Hid (Clk.mfrom (Clk.bg b) D (13 - j) j = j) := fun j h1 h2 => by
    show _ = _
    rw [show 13 - j = (13 - (j + 1)) + 1 by omega, Clk.mfrom, if_neg h2]
  have HG := Lib.hid (clk_bgb b)
  have HM0 : Hid (Clk.mfrom (Clk.bg b) D (13 - 1) 1 = m) := HM.out
  have HC : ∀ w1 : World, Fr (fun _ => False) w w1 → Hid (∀ j, j < 13 → (w1.alloc (.cells (zi (Clk.bg b)).toArray 124)).cell? ⟨w1.heap.size, j, none⟩ = some (.int .i64 ((Clk.bg b).getD j 0))) ∧ Hid (Below w.heap.size w (w1.alloc (.cells (zi (Clk.bg b)).toArray 124))) := fun w1 hF =>
    ⟨show ∀ j, _ from fun j hj => clk_cell (w := w1) (heap_alloc_new w1 _) j hj, (hF.alloc _).below (Nat.le_refl _) (fun _ _ h => h)⟩
  obtain ⟨f, hf⟩ : ∃ f : Nat → Int, ∀ j, (Clk.bg b).getD j 0 = f j := ⟨_, fun _ => rfl⟩
  simp only [hf] at HS HT HC HG y7 m3 m4 hciv
  clear hf HM
  rcases hc with ⟨hc1, hc2⟩ | ⟨rfl, hc2⟩ <;> rcases ha with ⟨ha1, ha2⟩ | ⟨rfl, ha2⟩ <;> cases b
  all_goals
    simp only [zi, Clk.bg, List.map_cons, List.map_nil, if_true, if_false, Bool.false_eq_true] at hbeg HC
    try simp only [Int.reduceMul, Int.reduceAdd] at hu hE' hD'
    go_enter Tryz.func55, Tryz.ntmps55
    go_wp2_with (go_at_call 90; refine (hbeg _).mono ?_; rintro e w1 ⟨rfl, hF⟩; obtain ⟨hW, hBel⟩ := HC w1 hF; clear hF hE' hD' hu hv hx hq hr hn hbeg)
    all_goals
      clear HC
      go_loop [3] (fun i => ∃ j : Nat, 1 ≤ j ∧ j ≤ 12 ∧ i = .int .i64 j ∧ Hid (Clk.mfrom (Clk.bg _) D (13 - j) j = m)) (fun i => 13 - (intOf i).toNat)
      case atStart => exact ⟨1, by omega, by omega, rfl, HM0⟩
      case round =>
        obtain ⟨j, hj1, hj2, rfl, hrel⟩ := hrel
        have c1 := hW.out j (by omega)
        have c2 := hW.out (j - 1) (by omega)
        have g1 := HG.out j (by omega)
        have g2 := HG.out (j - 1) (by omega)
        by_cases hle : f j ≤ D
        · have hne : j < 12 := by
            by_cases e : j = 12
            · rw [e] at hle; omega
            · omega
          have hs := HS j (by omega) hle
          clear c2 HS HT hciv
          generalize f j = L at *
          go_wp2
          go_round
          case rel => exact ⟨j + 1, by omega, by omega, by go_num, hs.out.symm.trans hrel.out⟩
          case measure => simp [intOf]; omega
        · have hs := HT j (by omega) (by omega)
          obtain rfl : j = m := hs.out.symm.trans hrel.out
          have e1 : ((j : Int) - 1).toNat = j - 1 := by omega
          clear HS HT hs hrel HM0 m3 m4
          generalize f j = L at *
          generalize f (j - 1) = L' at *
          go_wp2
          go_quiet (fail)
          go_wp2
          go_ret3
          rw [hciv.out]
          exact ⟨rfl, pw_drew hBel.out _⟩
theorem clk_civil (day : Int) (w : World) :
    Calls Tryz.prog 55 #[.int .i64 day] w fun e w' => e = .returned (.tuple #[.int .i64 (Clk.civ day).1, .int .i64 (Clk.civ day).2.1, .int .i64 (Clk.civ day).2.2]) ∧ Below w.heap.size w w' := by
  by_cases h : day < -719162 ∨ 2932896 < day
  · rw [show Clk.civ day = (0, 0, 0) from if_pos h]
    exact clk_civil_no day h w
  · exact clk_civil_yes day (by omega) (by omega) w
set_option maxHeartbeats 4000000 in
theorem clk_day_no (y m d : Int) (h : y < 1 ∨ 9999 < y ∨ m < 1 ∨ 12 < m) (w : World) :
    Calls Tryz.prog 67 #[.int .i64 y, .int .i64 m, .int .i64 d] w fun e w' => e = .returned (.tuple #[.int .i64 0, .int .i64 6]) ∧ Below w.heap.size w w' := by
  by_cases a : y < 1
  · go_enter Tryz.func67, Tryz.ntmps67
    go_wp2
    go_ret2
    exact ⟨rfl, Below.refl _ _⟩
  · by_cases b : 9999 < y
    · go_enter Tryz.func67, Tryz.ntmps67
      go_wp2
      go_ret2
      exact ⟨rfl, Below.refl _ _⟩
    · by_cases c : m < 1
      · go_enter Tryz.func67, Tryz.ntmps67
        go_wp2
        go_ret2
        exact ⟨rfl, Below.refl _ _⟩
      · have h' : 12 < m := by omega
        go_enter Tryz.func67, Tryz.ntmps67
        go_wp2
        go_ret2
        exact ⟨rfl, Below.refl _ _⟩
set_option maxHeartbeats 4000000 in
theorem clk_day_in (y d : Int) (m : Nat) (h1 : 1 ≤ y) (h2 : y ≤ 9999) (h3 : 1 ≤ m) (h4 : m ≤ 12) (hd : -1000 ≤ d ∧ d ≤ 1000) (w : World) :
    Calls Tryz.prog 67 #[.int .i64 y, .int .i64 m, .int .i64 d] w fun e w' => e = .returned (.tuple #[.int .i64 (Clk.day y m d).1, .int .i64 (Clk.day y m d).2]) ∧ Below w.heap.size w w' := by
  have hday := Lib.hid (show Clk.day y m d = if d < 1 ∨ (Clk.bg (Clk.lp y)).getD m 0 - (Clk.bg (Clk.lp y)).getD (m - 1) 0 < d then (0, 6) else (-719162 + Clk.ahd y + (Clk.bg (Clk.lp y)).getD (m - 1) 0 + d - 1, 0) from by
    unfold Clk.day
    rw [if_neg (by omega), Int.toNat_natCast])
  have ha : Hid (Clk.ahd y = 365 * (y - 1) + (y - 1) / 4 - (y - 1) / 100 + (y - 1) / 400) := rfl
  have hbeg := fun w => clk_begins y (by omega) (by omega) w
  generalize Clk.lp y = b at *
  have g1 := clk_bgb b m (by omega)
  have g2 := clk_bgb b (m - 1) (by omega)
  have HC : ∀ w1 : World, Fr (fun _ => False) w w1 → ((w1.alloc (.cells (zi (Clk.bg b)).toArray 124)).cell? ⟨w1.heap.size, m, none⟩ = some (.int .i64 ((Clk.bg b).getD m 0)) ∧ (w1.alloc (.cells (zi (Clk.bg b)).toArray 124)).cell? ⟨w1.heap.size, m - 1, none⟩ = some (.int .i64 ((Clk.bg b).getD (m - 1) 0))) ∧ Hid (Below w.heap.size w (w1.alloc (.cells (zi (Clk.bg b)).toArray 124))) := fun w1 hF =>
    ⟨⟨clk_cell (w := w1) (heap_alloc_new w1 _) m (by omega), clk_cell (w := w1) (heap_alloc_new w1 _) (m - 1) (by omega)⟩, (hF.alloc _).below (Nat.le_refl _) (fun _ _ h => h)⟩
  generalize (Clk.bg b).getD m 0 = L at *
  generalize (Clk.bg b).getD (m - 1) 0 = L' at *
  have e1 : ((m : Int) - 1).toNat = m - 1 := by omega
  cases b
  all_goals
    simp only [zi, Clk.bg, List.map_cons, List.map_nil, if_true, if_false, Bool.false_eq_true] at hbeg HC
    by_cases d1 : d < 1
    · go_enter Tryz.func67, Tryz.ntmps67
      go_wp2_with (go_at_call 90; refine (hbeg _).mono ?_; rintro e w1 ⟨rfl, hF⟩; obtain ⟨⟨c1, c2⟩, hBel⟩ := HC w1 hF; clear hF)
      go_quiet (fail)
      go_wp2
      go_ret2
      rw [hday.out, if_pos (Or.inl d1)]
      exact ⟨rfl, pw_drew hBel.out _⟩
    · have d1' : decide (d < 1) = false := decide_eq_false d1
      by_cases d2 : L - L' < d
      · go_enter Tryz.func67, Tryz.ntmps67
        go_wp2_with (go_at_call 90; refine (hbeg _).mono ?_; rintro e w1 ⟨rfl, hF⟩; obtain ⟨⟨c1, c2⟩, hBel⟩ := HC w1 hF; clear hF)
        go_quiet (fail)
        go_wp2
        go_ret2
        rw [hday.out, if_pos (Or.inr d2)]
        exact ⟨rfl, pw_drew hBel.out _⟩
      · go_enter Tryz.func67, Tryz.ntmps67
        go_wp2_with (go_at_call 90; refine (hbeg _).mono ?_; rintro e w1 ⟨rfl, hF⟩; obtain ⟨⟨c1, c2⟩, hBel⟩ := HC w1 hF; clear hF)
        go_quiet (fail)
        go_wp2
        go_ret2
        rw [hday.out, if_neg (by omega), show -719162 + Clk.ahd y + L' + d - 1 = -719162 + 365 * (y - 1) + (y - 1) / 4 - (y - 1) / 100 + (y - 1) / 400 + L' + d - 1 by rw [ha.out]; omega]
        exact ⟨rfl, pw_drew hBel.out _⟩
theorem clk_day (y m d : Int) (hd : -1000 ≤ d ∧ d ≤ 1000) (w : World) :
    Calls Tryz.prog 67 #[.int .i64 y, .int .i64 m, .int .i64 d] w fun e w' => e = .returned (.tuple #[.int .i64 (Clk.day y m d).1, .int .i64 (Clk.day y m d).2]) ∧ Below w.heap.size w w' := by
  by_cases h : y < 1 ∨ 9999 < y ∨ m < 1 ∨ 12 < m
  · rw [show Clk.day y m d = (0, 6) from if_pos h]
    exact clk_day_no y m d h w
  · obtain ⟨k, rfl⟩ : ∃ k : Nat, m = (k : Int) := ⟨m.toNat, by omega⟩
    exact clk_day_in y d k (by omega) (by omega) (by omega) (by omega) hd w
end Go.Proofs.YtghcadbmjglidaaGreatDoor
end
