/- Texts of this proof, laid together: RangeBox, UriMath, Shelf, ShelfB, CanMath, Own, Builder, UriA, UriB, UriC, Only, Upto, Join, Att, TwoB, Split, JoinA, ToUp, CanA, ShaE, Canon, ShaF, Mac, MacB, KeyA, ClkC, HexOwn. -/
import Derived.RangeFuncNested
import Derived.RangeFuncBound
import Derived.RangeFuncCalls
import Derived.RangeFuncLeaves
import Derived.RangeFuncBox
import Derived.RangeFuncWrites
import Derived.Shelf.Abstract
import Derived.Shelf.RegionOpen
import Derived.WalkKit
import Derived.OwnWalkIn
import Derived.TacticsInMore
import Derived.LoopNIn
import Derived.LoopIn
import Derived.Maps.AppendAt
import Derived.Shelf.Strings.Builder1
import Derived.Shelf.Strings.Builder2
import Derived.Shelf.Small.Bits
import Derived.Shelf.Small.Strs
import Derived.Shelf.Strconv.Itoa0
import Derived.Shelf.Strings.Search1
import Derived.Shelf.Strings.Search2
import Derived.Shelf.Strings.Search3
import Derived.Shelf.Strings.Cut
import Derived.Shelf.Strings.Count
import Derived.Shelf.Sort.Plain
import Derived.Shelf.Strings.Split
import Derived.Shelf.Slices.In.SortNone
import Derived.Shelf.SlSortCmp.NoneTotal
import Derived.Sort.LotA
import Derived.Shelf.SlSortCmp.Insertion
import Derived.Sort.Walk0
import Derived.Lib.AppendZeros
import Derived.Lib.Builder
import Derived.Lib.Strings
import Derived.Lib.AppendStr
import Derived.Lib.UnsafeStr
import Derived.KernelRfl
import Derived.Laws.Externs
import Derived.Lib.Hide
import Derived.WalkSpells
import Derived.WalkLawsBesides
import Derived.StillTailTactics
import Derived.Deep.RegionWith
import Derived.LoopN
import Derived.Deep.RegionHeld3
import Derived.Test.YtghcadbmjglidaaGreatDoorAv1
set_option linter.unusedVariables false
set_option linter.unusedSimpArgs false
section
set_option linter.unusedVariables false
namespace Go.Proofs.YtghcadbmjglidaaGreatDoor
open Go.RowKit Go.Shelf
def Bears {β : Type} (B Bs : Nat) (I : β → World → Prop) : Prop :=
  ∀ s W W' row, I s W → W.grownBy W' row → (∀ r, row = some r → r = Bs ∨ (B ≤ r ∧ ∃ o : Obj, W.heap[r]? = some o ∧ o.isCells = false)) → I s W'
theorem Bears.obj {β : Type} {B Bs : Nat} {I : β → World → Prop} (h : Bears B Bs I) {s : β} {W : World} {l : Nat} {o : Obj} (o' : Obj) (hs : I s W) (hB : B ≤ l) (hl : W.heap[l]? = some o) (ho : o.isCells = false) : I s (W.putObj l o') :=
  h s W _ (some l) hs (grownBy_putObj' W l o') (fun r e => by cases e; exact .inr ⟨hB, o, hl, ho⟩)
theorem Bears.new {β : Type} {B Bs : Nat} {I : β → World → Prop} (h : Bears B Bs I) {s : β} {W : World} (o : Obj) (hs : I s W) : I s (W.alloc o) :=
  h s W _ none hs (World.grownBy_alloc W o none) (fun r e => by cases e)
def boxPost {α : Type} (B : Nat) (Kp : World → World → Prop) (I Ix : List α → World → Prop) (xs : List α) (W : World) : Exit → Act → World → Prop
  | .normal, _, W' => KeepsFrom B W W' ∧ Kp W W' ∧ I xs W'
  | .ret, _, W' => KeepsFrom B W W' ∧ Ix xs W'
  | _, _, _ => False
def SeqBox {α : Type} (F : Fence) (n : Nat) (P : Program) (g : Nat) (lb : Array Value) (encs : α → Array Value) (Kp : World → World → Prop) (G : α → Prop) (xs : List α) (Bs : Nat) (w : World) : Prop :=
  ∀ (l : Nat) (J Jx : List α → World → Prop) (W : World), Below w.heap.size w W →
    (∀ s A B row, J s A → A.grownBy B row → (∀ r, row = some r → r = Bs) → J s B) → (∀ s A B row, Jx s A → A.grownBy B row → (∀ r, row = some r → r = Bs) → Jx s B) →
    (∀ pre x W1, J pre W1 → G x → YieldAt F (n - 1) P l (encs x) W1 fun e W' =>
      (e = .returned (.bool true) ∧ J (pre ++ [x]) W' ∧ Kp W1 W') ∨ (e = .returned (.bool false) ∧ Jx (pre ++ [x]) W')) →
    J [] W →
    CallsIn F n P g (#[.func (.yield l) #[] #[]] ++ lb) W fun e W' => (∃ v, e = .returned v) ∧ (J xs W' ∨ ∃ pre, pre <+: xs ∧ Jx pre W')
variable {F : Fence} {n : Nat} {P : Program}
theorem wpIn_rangeFunc_box {α : Type} {g : Operand} {ps : Array Tmp} {assign body : Code} {Q : Exit → Act → World → Prop} {a : Act} {w : World}
    (hro : F.round = none) (h1 : 1 ≤ n) {gf : Nat} {lb : Array Value} (hg : a.eval g = .func (.func gf) #[] lb) (hFg : F.fn gf) (eg : ∀ args w, (callFunc gf args).run P w = .ok (.enter gf args) w)
    {encs : α → Array Value} {Kp : World → World → Prop} {G : α → Prop} {xs : List α} {Bs : Nat} (hBs : Bs < w.heap.size) (hseq : SeqBox F (n - 1) P gf lb encs Kp G xs Bs w)
    (hKt : ∀ {A B C : World}, Kp A B → Kp B C → Kp A C) (hKb : ∀ (W : World) (l : Nat) (o' : Obj), w.heap.size ≤ l → Kp W (W.putObj l o')) (hps : ∀ x, (encs x).size = ps.size)
    (I Ix : List α → World → Prop) (hI : Bears w.heap.size Bs I) (hIx : Bears w.heap.size Bs Ix) (h0 : I [] w) (a₁ : α → Act)
    (hassign : ∀ (l : Nat) (x : α) (W : World) (K : Act → World → Prop), K (a₁ x) W →
      assign.wpIn (F.inRound l) (n - 1 - 1) P (Exit.then K (fun _ _ _ => False)) { tmps := (ps.zip (encs x)).foldl (fun t (p, v) => t.setIfInBounds p v) a.tmps, defers := [] } W)
    (hbody : ∀ (l : Nat) (pre : List α) (x : α) (W : World), I pre W → G x → body.wpIn (F.inRound l) (n - 1 - 1) P (boxPost w.heap.size Kp I Ix (pre ++ [x]) W) (a₁ x) W)
    (hdone : ∀ (D : Nat) (W : World), w.heap.size ≤ D → I xs W → W.heap[D]? = some (.deferred (some [])) → Q .normal { a with defers := { target := .collected D, args := #[] } :: a.defers } W)
    (hstop : ∀ (D : Nat) (pre : List α) (W : World), w.heap.size ≤ D → pre <+: xs → Ix pre W → W.heap[D]? = some (.deferred (some [])) → Code.ret.wpIn F n P Q { a with defers := { target := .collected D, args := #[] } :: a.defers } W) :
    (Code.rangeFunc g ps assign body).wpIn F n P Q a w := by
  refine wpIn_rangeFunc fun fn hfn => ?_
  rw [hro]
  obtain ⟨rec, hrec⟩ : ∃ rec : LoopState → Option Code → Loop, rec = fun st pe => { state := st, pending := pe, fn, tmps := a.tmps, params := ps, assign, body, defers := w.heap.size } := ⟨_, rfl⟩
  obtain ⟨W1, hW1⟩ : ∃ W1, (w.alloc (.deferred (some []))).alloc (.loop (rec .ready none)) = W1 := ⟨_, rfl⟩
  have hL1 : W1.heap[w.heap.size + 1]? = some (.loop (rec .ready none)) := by
    have := World.alloc_heap_new (w.alloc (.deferred (some []))) (.loop (rec .ready none))
    rw [World.size_alloc] at this
    rw [← hW1]
    exact this
  have hK1 : W1.heap[w.heap.size]? = some (.deferred (some [])) := by
    rw [← hW1]
    exact (Below.heap_alloc _ _ _ (by simp)).trans (World.alloc_heap_new w _)
  have hI1 : I [] W1 := by rw [← hW1]; exact hI.new _ (hI.new _ h0)
  have hb1 : Below w.heap.size w W1 := by rw [← hW1]; exact ((Below.refl _ w).alloc (Nat.le_refl _) _).alloc (by simp) _
  have far : ∀ {A B : World} {row : Option Nat} {k : Nat} {o : Obj}, w.heap.size ≤ k → A.grownBy B row → (∀ r, row = some r → r = Bs) → A.heap[k]? = some o → B.heap[k]? = some o := fun hk hg' hr ho =>
    (hg'.block _ (Array.getElem?_eq_some_iff.1 ho).1 (fun e => by have := hr _ e.symm; omega)).trans ho
  refine ⟨w.heap.size + 1, [{ target := .collected w.heap.size, args := #[] }], W1, { target := .fn (.func gf) lb, args := #[.func (.yield (w.heap.size + 1)) #[] #[]] }, W1, gf,
    #[.func (.yield (w.heap.size + 1)) #[] #[]] ++ lb, W1, ?_, ?_, ?_, ?_, fun _ => h1, ?_⟩
  · rw [← hW1, hrec]; exact run_enterLoop_outer _ _ _ _ _
  · simp only [resolve, hg]
    simp [go_sem]
  · intro f' hf'; simp [Target.leads] at hf'; subst hf'; exact hFg
  · simp [invoke, go_sem, eg]
  refine (hseq (w.heap.size + 1)
    (fun pre W => I pre W ∧ W.heap[w.heap.size + 1]? = some (.loop (rec .ready none)) ∧ W.heap[w.heap.size]? = some (.deferred (some [])))
    (fun pre W => Ix pre W ∧ W.heap[w.heap.size + 1]? = some (.loop (rec .done (some .ret))) ∧ W.heap[w.heap.size]? = some (.deferred (some [])))
    W1 hb1
    (fun s A B row hs hg' hr => ⟨hI s A B row hs.1 hg' (fun r e => .inl (hr r e)), far (by omega) hg' hr hs.2.1, far (by omega) hg' hr hs.2.2⟩)
    (fun s A B row hs hg' hr => ⟨hIx s A B row hs.1 hg' (fun r e => .inl (hr r e)), far (by omega) hg' hr hs.2.1, far (by omega) hg' hr hs.2.2⟩)
    ?_ ⟨hI1, hL1, hK1⟩).mono ?_
  · rintro pre x W ⟨hi, hl, hk⟩ hG
    have hlt : w.heap.size + 1 < W.heap.size := (Array.getElem?_eq_some_iff.1 hl).1
    have hy := run_yield (P := P) (args := encs x) hl (by rw [hrec]; exact hps x)
    rw [hrec] at hy
    refine ⟨fn, _, assign, body, hy, roundIn_of_wpIn hfn (hassign _ x W _ ⟨_, run_beginRound hl (by rw [hrec]), ?_⟩)⟩
    obtain ⟨Wb, hWb⟩ : ∃ Wb, W.putObj (w.heap.size + 1) (.loop { rec .ready none with state := .busy }) = Wb := ⟨_, rfl⟩
    have hl2 : Wb.heap[w.heap.size + 1]? = some (.loop { rec .ready none with state := .busy }) := by rw [← hWb]; exact World.putObj_heap_same hlt
    have hk2 : Wb.heap[w.heap.size]? = some (.deferred (some [])) := by rw [← hWb]; exact (World.putObj_heap_other (by omega)).trans hk
    have hw2 : Kp W Wb := by rw [← hWb]; exact hKb _ _ _ (by omega)
    have hi2 : I pre Wb := by rw [← hWb]; exact hI.obj _ hi (by omega) hl rfl
    show body.wpIn _ _ _ _ _ (W.putObj (w.heap.size + 1) (.loop { rec .ready none with state := .busy }))
    rw [hWb]
    refine wpIn_mono (hbody _ pre x _ hi2 hG) ?_
    have fin : ∀ (jump : Option Code) (W3 : World), KeepsFrom w.heap.size Wb W3 →
        (Instr.endRound (w.heap.size + 1) jump).run P W3 = .ok (.bool jump.isNone) (W3.putObj (w.heap.size + 1) (.loop (rec (if jump.isNone then .ready else .done) jump))) ∧
        W3.heap[w.heap.size + 1]? = some (.loop { rec .ready none with state := .busy }) ∧
        (W3.putObj (w.heap.size + 1) (.loop (rec (if jump.isNone then .ready else .done) jump))).heap[w.heap.size + 1]? = some (.loop (rec (if jump.isNone then .ready else .done) jump)) ∧
        (W3.putObj (w.heap.size + 1) (.loop (rec (if jump.isNone then .ready else .done) jump))).heap[w.heap.size]? = some (.deferred (some [])) := fun jump W3 hk3 => by
      have hl3 := hk3.same _ _ (by omega) hl2 rfl
      have hd3 := hk3.same _ _ (Nat.le_refl _) hk2 rfl
      have he := run_endRound (P := P) jump hl3
      rw [hrec] at he ⊢
      rw [hrec] at hl3
      exact ⟨he, hl3, World.putObj_heap_same (Array.getElem?_eq_some_iff.1 hl3).1, (World.putObj_heap_other (by omega)).trans hd3⟩
    rintro e a3 W3 hp
    cases e with
    | normal =>
      obtain ⟨hk3, hkp3, hi3⟩ := hp
      obtain ⟨hr, hl3, hl4, hk4⟩ := fin none W3 hk3
      exact ⟨_, _, hr, .inl ⟨rfl, ⟨hI.obj _ hi3 (by omega) hl3 rfl, hl4, hk4⟩, hKt (hKt hw2 hkp3) (hKb _ _ _ (by omega))⟩⟩
    | ret =>
      obtain ⟨hk3, hi3⟩ := hp
      obtain ⟨hr, hl3, hl4, hk4⟩ := fin (some .ret) W3 hk3
      exact ⟨_, _, hr, .inr ⟨rfl, hIx.obj _ hi3 (by omega) hl3 rfl, hl4, hk4⟩⟩
    | exit id => exact hp.elim
    | goto t => exact hp.elim
    | panic ch => exact hp.elim
    | outgrown => exact hp.elim
  · rintro e W2 ⟨⟨v, rfl⟩, (⟨hi, hl, hk⟩ | ⟨pre, hpre, hi, hl, hk⟩)⟩
    · exact ⟨none, _, by have := run_endLoop (P := P) hl (by rw [hrec]; simp); rw [hrec] at this; exact this, hdone _ _ (Nat.le_refl _) (hI.obj _ hi (by omega) hl rfl) ((World.putObj_heap_other (by omega)).trans hk)⟩
    · exact ⟨some .ret, _, by have := run_endLoop (P := P) hl (by rw [hrec]; simp); rw [hrec] at this; exact this, hstop _ pre _ (Nat.le_refl _) hpre (hIx.obj _ hi (by omega) hl rfl) ((World.putObj_heap_other (by omega)).trans hk)⟩
end Go.Proofs.YtghcadbmjglidaaGreatDoor
end
section
namespace Go.Proofs.YtghcadbmjglidaaGreatDoor.Uri
def plain (c : UInt8) : Bool :=
  (97 ≤ c && c ≤ 122) || (65 ≤ c && c ≤ 90) || (48 ≤ c && c ≤ 57) || c == 45 || c == 46 || c == 95 || c == 126
def hexU (n : UInt8) : UInt8 := if n < 10 then 48 + n else 55 + n
def hexV (c : UInt8) : UInt8 :=
  if 48 ≤ c && c ≤ 57 then c - 48 else if 97 ≤ c && c ≤ 102 then c - 97 + 10 else if 65 ≤ c && c ≤ 70 then c - 65 + 10 else 16
def enc1 (slash : Bool) (c : UInt8) : List UInt8 :=
  if plain c || slash && c == 47 then [c] else [37, hexU (c >>> 4), hexU (c &&& 15)]
def enc (slash : Bool) (l : List UInt8) : List UInt8 := l.flatMap (enc1 slash)
def dec : List UInt8 → Option (List UInt8)
  | [] => some []
  | c :: t =>
    if c = 37 then
      match t with
      | a :: b :: r => if hexV a < 16 && hexV b < 16 then (dec r).map ((hexV a * 16 + hexV b) :: ·) else none
      | _ => none
    else (dec t).map (c :: ·)
theorem dec_nil : dec [] = some [] := by rw [dec.eq_def]
theorem dec_plain {c : UInt8} (h : c ≠ 37) (t : List UInt8) : dec (c :: t) = (dec t).map (c :: ·) := by rw [dec.eq_def]; simp [h]
theorem dec_pct (a b : UInt8) (r : List UInt8) : dec (37 :: a :: b :: r) = if hexV a < 16 && hexV b < 16 then (dec r).map ((hexV a * 16 + hexV b) :: ·) else none := by
  rw [dec.eq_def]; simp
theorem dec_short (t : List UInt8) (h : t.length < 2) : dec (37 :: t) = none := by
  match t, h with
  | [], _ => rw [dec.eq_def]; simp
  | [_], _ => rw [dec.eq_def]; simp
theorem dec_head (h t : List UInt8) (hh : ∀ c ∈ h, c ≠ 37) : dec (h ++ t) = (dec t).map (h ++ ·) := by
  induction h with
  | nil => simp
  | cons c h ih =>
    rw [List.cons_append, dec_plain (hh c (by simp)), ih (fun d hd => hh d (by simp [hd]))]
    simp [Option.map_map, Function.comp_def]
def cut1 (c : UInt8) : List UInt8 → List UInt8 × List UInt8 × Bool
  | [] => ([], [], false)
  | x :: t => if x = c then ([], t, true) else (x :: (cut1 c t).1, (cut1 c t).2)
theorem cut1_not (c : UInt8) (l : List UInt8) (h : ∀ x ∈ l, x ≠ c) : cut1 c l = (l, [], false) := by
  induction l with
  | nil => rfl
  | cons x l ih => simp [cut1, h x (by simp), ih fun y hy => h y (by simp [hy])]
theorem cut1_at (c : UInt8) (h t : List UInt8) (hh : ∀ x ∈ h, x ≠ c) : cut1 c (h ++ c :: t) = (h, t, true) := by
  induction h with
  | nil => simp [cut1]
  | cons x h ih => simp [cut1, hh x (by simp), ih fun y hy => hh y (by simp [hy])]
theorem cut1_cases (c : UInt8) (l : List UInt8) : (cut1 c l = (l, [], false) ∧ ∀ x ∈ l, x ≠ c) ∨ ∃ h t, l = h ++ c :: t ∧ (∀ x ∈ h, x ≠ c) ∧ cut1 c l = (h, t, true) := by
  induction l with
  | nil => exact .inl ⟨rfl, by simp⟩
  | cons x l ih =>
    by_cases hx : x = c
    · exact .inr ⟨[], l, by simp [hx], by simp, by simp [cut1, hx]⟩
    · rcases ih with ⟨h1, h2⟩ | ⟨h, t, h1, h2, h3⟩
      · exact .inl ⟨by simp [cut1, hx, h1], fun y hy => (List.mem_cons.1 hy).elim (fun e => e ▸ hx) (h2 y)⟩
      · exact .inr ⟨x :: h, t, by simp [h1], fun y hy => (List.mem_cons.1 hy).elim (fun e => e ▸ hx) (h2 y), by simp [cut1, hx, h3]⟩
end Go.Proofs.YtghcadbmjglidaaGreatDoor.Uri
end
section
namespace Go.Proofs
open Go.Shelf
def Tryz.lays169_ren : Go.Shelf.Ren := ⟨fun | 169 => 54 | n => n, fun | 70 => 86 | 9 => 9 | 0 => 0 | 72 => 88 | 37 => 37 | 127 => 123 | 3 => 3 | 5 => 5 | n => n, fun | n => n⟩
theorem Tryz.lays169 : Go.Proofs.Lays.n169 Tryz.prog Tryz.lays169_ren := {
  mixed := by kernel_rfl
  f169 := Tryz.func54.trans (congrArg some (by kernel_rfl))
  t0 := Tryz.underlying0
  a0 := Tryz.isAgg0
  z0 := Tryz.sizeOf0
  v0 := Tryz.zeroValue0
  t3 := Tryz.underlying3
  a3 := Tryz.isAgg3
  z3 := Tryz.sizeOf3
  v3 := Tryz.zeroValue3
  t9 := Tryz.underlying9
  a9 := Tryz.isAgg9
  z9 := Tryz.sizeOf9
  v9 := Tryz.zeroValue9
  t37 := Tryz.underlying37
  a37 := Tryz.isAgg37
  z37 := Tryz.sizeOf37
  v37 := Tryz.zeroValue37
  t70 := Tryz.underlying86
  a70 := Tryz.isAgg86
  z70 := Tryz.sizeOf86
  v70 := Tryz.zeroValue86
  t72 := Tryz.underlying88
  a72 := Tryz.isAgg88
  z72 := Tryz.sizeOf88
  v72 := Tryz.zeroValue88
  t127 := Tryz.underlying123
  a127 := Tryz.isAgg123
  z127 := Tryz.sizeOf123
  v127 := Tryz.zeroValue123 }
theorem Tryz.Builder_Extra_169 : Builder.Extra Tryz.prog Tryz.lays169_ren := {
  sizeBuilder := by kernel_rfl
  liesBuilder := by kernel_rfl
  t5 := Tryz.underlying5
  a5 := Tryz.isAgg5
  z5 := Tryz.sizeOf5
  v5 := Tryz.zeroValue5
  infoByte := by kernel_rfl
  cellsByte := by kernel_rfl
  sizeByte := by kernel_rfl
  neB5 := by decide }
open Go.RowKit in
theorem Tryz.Builder_String_any (B b : Nat) (l : List UInt8) (w : World) (h : Lib.IsBuilder 88 5 B b (Lib.byteCells l) w) (hBw : B ≤ w.heap.size) :
    Calls Tryz.prog 54 #[.pointer (some ⟨b, 0, none⟩)] w fun e w' => e = .returned (.string ⟨l.toArray⟩) ∧ Below B w w' := Any.Builder_String_any Tryz.lays169 Tryz.Builder_Extra_169 B b l w h hBw
def Tryz.lays241_ren : Go.Shelf.Ren := ⟨fun | 241 => 89 | 277 => 137 | n => n, fun | 70 => 86 | 3 => 3 | 0 => 0 | 72 => 88 | 37 => 37 | 5 => 5 | n => n, fun | n => n⟩
theorem Tryz.lays241 : Go.Proofs.Lays.n241 Tryz.prog Tryz.lays241_ren := {
  mixed := by kernel_rfl
  f241 := Tryz.func89.trans (congrArg some (by kernel_rfl))
  f277 := Tryz.func137.trans (congrArg some (by kernel_rfl))
  t0 := Tryz.underlying0
  a0 := Tryz.isAgg0
  z0 := Tryz.sizeOf0
  v0 := Tryz.zeroValue0
  t3 := Tryz.underlying3
  a3 := Tryz.isAgg3
  z3 := Tryz.sizeOf3
  v3 := Tryz.zeroValue3
  t37 := Tryz.underlying37
  a37 := Tryz.isAgg37
  z37 := Tryz.sizeOf37
  v37 := Tryz.zeroValue37
  t70 := Tryz.underlying86
  a70 := Tryz.isAgg86
  z70 := Tryz.sizeOf86
  v70 := Tryz.zeroValue86
  t72 := Tryz.underlying88
  a72 := Tryz.isAgg88
  z72 := Tryz.sizeOf88
  v72 := Tryz.zeroValue88 }
theorem Tryz.Builder_Extra_241 : Builder.Extra Tryz.prog Tryz.lays241_ren := {
  sizeBuilder := by kernel_rfl
  liesBuilder := by kernel_rfl
  t5 := Tryz.underlying5
  a5 := Tryz.isAgg5
  z5 := Tryz.sizeOf5
  v5 := Tryz.zeroValue5
  infoByte := by kernel_rfl
  cellsByte := by kernel_rfl
  sizeByte := by kernel_rfl
  neB5 := by decide }
open Go.RowKit in
theorem Tryz.Builder_grow_fresh (B b n : Nat) (w : World) (hB : B ≤ b) (hbk : w.heap[b]? = some (.cells #[.pointer (some ⟨b, 0, none⟩), .slice none 0 0] 88 (0, 0))) (hBw : B ≤ w.heap.size) (hn : n ≤ 281474976710656) :
    Calls Tryz.prog 89 #[.pointer (some ⟨b, 0, none⟩), .int .i64 n] w fun e w' => e = .returned (.tuple #[]) ∧ (Lib.BuilderAt 88 5 B b (.pointer (some ⟨b, 0, none⟩)) [] w' ∧ Below B w w') := Any.Builder_grow_fresh Tryz.lays241 Tryz.Builder_Extra_241 B b n w hB hbk hBw hn
def Tryz.lays106_ren : Go.Shelf.Ren := ⟨fun | 106 => 85 | 213 => 135 | 265 => 166 | n => n, fun | 9 => 9 | 3 => 3 | n => n, fun | n => n⟩
theorem Tryz.lays106 : Go.Proofs.Lays.n106 Tryz.prog Tryz.lays106_ren := {
  mixed := by kernel_rfl
  f106 := Tryz.func85.trans (congrArg some (by kernel_rfl))
  f213 := Tryz.func135.trans (congrArg some (by kernel_rfl))
  f265 := Tryz.func166.trans (congrArg some (by kernel_rfl))
  t3 := Tryz.underlying3
  a3 := Tryz.isAgg3
  z3 := Tryz.sizeOf3
  v3 := Tryz.zeroValue3
  t9 := Tryz.underlying9
  a9 := Tryz.isAgg9
  z9 := Tryz.sizeOf9
  v9 := Tryz.zeroValue9 }
open Go.RowKit in
theorem Tryz.strings_Compare (a b : ByteArray) (w : World) :
    Calls Tryz.prog 85 #[.string a, .string b] w fun e w' => e = .returned (.int .i64 (Lib.compareBytes a.data.toList b.data.toList)) ∧ w' = w := Any.strings_Compare Tryz.lays106 a b w
def Tryz.lays137_ren : Go.Shelf.Ren := ⟨fun | 137 => 81 | 217 => 124 | 266 => 161 | n => n, fun | 9 => 9 | 5 => 5 | 3 => 3 | n => n, fun | n => n⟩
theorem Tryz.lays137 : Go.Proofs.Lays.n137 Tryz.prog Tryz.lays137_ren := {
  mixed := by kernel_rfl
  f137 := Tryz.func81.trans (congrArg some (by kernel_rfl))
  f217 := Tryz.func124.trans (congrArg some (by kernel_rfl))
  f266 := Tryz.func161.trans (congrArg some (by kernel_rfl))
  t3 := Tryz.underlying3
  a3 := Tryz.isAgg3
  z3 := Tryz.sizeOf3
  v3 := Tryz.zeroValue3
  t5 := Tryz.underlying5
  a5 := Tryz.isAgg5
  z5 := Tryz.sizeOf5
  v5 := Tryz.zeroValue5
  t9 := Tryz.underlying9
  a9 := Tryz.isAgg9
  z9 := Tryz.sizeOf9
  v9 := Tryz.zeroValue9 }
open Go.RowKit in
theorem Tryz.strings_IndexByte (s : ByteArray) (c : Int) (w : World) :
    Calls Tryz.prog 81 #[.string s, .int .u8 c] w fun e w' => e = .returned (.int .i64 (Lib.indexByte s.data.toList c.toNat.toUInt8)) ∧ w' = w := Any.strings_IndexByte Tryz.lays137 s c w
def Tryz.lays219_ren : Go.Shelf.Ren := ⟨fun | 219 => 77 | 217 => 124 | 225 => 125 | 224 => 126 | 267 => 127 | 266 => 161 | 314 => 162 | n => n, fun | 9 => 9 | 3 => 3 | 4 => 4 | 5 => 5 | 46 => 102 | 146 => 197 | 51 => 137 | n => n, fun | 1 => 0 | n => n⟩
theorem Tryz.lays219 : Go.Proofs.Lays.n219 Tryz.prog Tryz.lays219_ren := {
  mixed := by kernel_rfl
  f217 := Tryz.func124.trans (congrArg some (by kernel_rfl))
  f219 := Tryz.func77.trans (congrArg some (by kernel_rfl))
  f224 := Tryz.func126.trans (congrArg some (by kernel_rfl))
  f225 := Tryz.func125.trans (congrArg some (by kernel_rfl))
  f266 := Tryz.func161.trans (congrArg some (by kernel_rfl))
  f267 := Tryz.func127.trans (congrArg some (by kernel_rfl))
  f314 := Tryz.func162.trans (congrArg some (by kernel_rfl))
  t3 := Tryz.underlying3
  a3 := Tryz.isAgg3
  z3 := Tryz.sizeOf3
  v3 := Tryz.zeroValue3
  t4 := Tryz.underlying4
  a4 := Tryz.isAgg4
  z4 := Tryz.sizeOf4
  v4 := Tryz.zeroValue4
  t5 := Tryz.underlying5
  a5 := Tryz.isAgg5
  z5 := Tryz.sizeOf5
  v5 := Tryz.zeroValue5
  t9 := Tryz.underlying9
  a9 := Tryz.isAgg9
  z9 := Tryz.sizeOf9
  v9 := Tryz.zeroValue9
  t46 := Tryz.underlying102
  a46 := Tryz.isAgg102
  z46 := Tryz.sizeOf102
  v46 := Tryz.zeroValue102
  t51 := Tryz.underlying137
  a51 := Tryz.isAgg137
  z51 := Tryz.sizeOf137
  v51 := Tryz.zeroValue137
  t146 := Tryz.underlying197
  a146 := Tryz.isAgg197
  z146 := Tryz.sizeOf197
  v146 := Tryz.zeroValue197
  g1 := by kernel_rfl }
open Go.RowKit Go.Lib in
theorem Tryz.stringslite_Index_one (s : ByteArray) (c : UInt8) (w : World) :
    Calls Tryz.prog 77 #[.string s, .string ⟨#[c]⟩] w fun e w' => e = .returned (.int .i64 (Lib.indexByte s.data.toList c)) ∧ w' = w := Any.stringslite_Index_one Tryz.lays219 s c w
def Tryz.lays145_ren : Go.Shelf.Ren := ⟨fun | 145 => 19 | 220 => 44 | 219 => 77 | 217 => 124 | 225 => 125 | 224 => 126 | 267 => 127 | 266 => 161 | 314 => 162 | n => n, fun | 9 => 9 | 4 => 4 | 59 => 56 | 3 => 3 | 5 => 5 | 46 => 102 | 146 => 197 | 51 => 137 | n => n, fun | 1 => 0 | n => n⟩
theorem Tryz.lays145 : Go.Proofs.Lays.n145 Tryz.prog Tryz.lays145_ren := {
  mixed := by kernel_rfl
  f145 := Tryz.func19.trans (congrArg some (by kernel_rfl))
  f217 := Tryz.func124.trans (congrArg some (by kernel_rfl))
  f219 := Tryz.func77.trans (congrArg some (by kernel_rfl))
  f220 := Tryz.func44.trans (congrArg some (by kernel_rfl))
  f224 := Tryz.func126.trans (congrArg some (by kernel_rfl))
  f225 := Tryz.func125.trans (congrArg some (by kernel_rfl))
  f266 := Tryz.func161.trans (congrArg some (by kernel_rfl))
  f267 := Tryz.func127.trans (congrArg some (by kernel_rfl))
  f314 := Tryz.func162.trans (congrArg some (by kernel_rfl))
  t3 := Tryz.underlying3
  a3 := Tryz.isAgg3
  z3 := Tryz.sizeOf3
  v3 := Tryz.zeroValue3
  t4 := Tryz.underlying4
  a4 := Tryz.isAgg4
  z4 := Tryz.sizeOf4
  v4 := Tryz.zeroValue4
  t5 := Tryz.underlying5
  a5 := Tryz.isAgg5
  z5 := Tryz.sizeOf5
  v5 := Tryz.zeroValue5
  t9 := Tryz.underlying9
  a9 := Tryz.isAgg9
  z9 := Tryz.sizeOf9
  v9 := Tryz.zeroValue9
  t46 := Tryz.underlying102
  a46 := Tryz.isAgg102
  z46 := Tryz.sizeOf102
  v46 := Tryz.zeroValue102
  t51 := Tryz.underlying137
  a51 := Tryz.isAgg137
  z51 := Tryz.sizeOf137
  v51 := Tryz.zeroValue137
  t59 := Tryz.underlying56
  a59 := Tryz.isAgg56
  z59 := Tryz.sizeOf56
  v59 := Tryz.zeroValue56
  t146 := Tryz.underlying197
  a146 := Tryz.isAgg197
  z146 := Tryz.sizeOf197
  v146 := Tryz.zeroValue197
  g1 := by kernel_rfl }
open Go.RowKit Go.Lib in
theorem Tryz.strings_Cut (s sep : ByteArray) (m : Int) (w : World) (hs : s.size < 4294967281) (hm : w.cell? ⟨0, 0, none⟩ = some (.int .i64 m)) :
    Calls Tryz.prog 19 #[.string s, .string sep] w fun e w' => e = .returned (.tuple #[.string ⟨(Lib.cut s.data.toList sep.data.toList).1.toArray⟩, .string ⟨(Lib.cut s.data.toList sep.data.toList).2.1.toArray⟩, .bool (Lib.cut s.data.toList sep.data.toList).2.2]) ∧ ∃ n, w' = w.drewN n := Any.strings_Cut Tryz.lays145 s sep m w hs hm
def Tryz.lays190_ren : Go.Shelf.Ren := ⟨fun | 190 => 32 | 125 => 60 | 258 => 59 | 128 => 100 | 129 => 101 | 302 => 91 | 303 => 92 | 304 => 93 | 305 => 94 | 306 => 95 | 307 => 96 | 308 => 97 | 309 => 98 | 310 => 99 | 333 => 139 | 329 => 140 | 330 => 141 | 334 => 142 | 335 => 143 | 336 => 144 | 344 => 167 | n => n, fun | 31 => 22 | 9 => 9 | 3 => 3 | 46 => 102 | 0 => 0 | 51 => 137 | 53 => 40 | 4 => 4 | 183 => 129 | 182 => 128 | 131 => 134 | 5 => 5 | 218 => 175 | 222 => 179 | 228 => 203 | 229 => 204 | n => n, fun | n => n⟩
theorem Tryz.lays190 : Go.Proofs.Lays.n190 Tryz.prog Tryz.lays190_ren := {
  mixed := by kernel_rfl
  f125 := Tryz.func60.trans (congrArg some (by kernel_rfl))
  f128 := Tryz.func100.trans (congrArg some (by kernel_rfl))
  f129 := Tryz.func101.trans (congrArg some (by kernel_rfl))
  f190 := Tryz.func32.trans (congrArg some (by kernel_rfl))
  f258 := Tryz.func59.trans (congrArg some (by kernel_rfl))
  f302 := Tryz.func91.trans (congrArg some (by kernel_rfl))
  f303 := Tryz.func92.trans (congrArg some (by kernel_rfl))
  f304 := Tryz.func93.trans (congrArg some (by kernel_rfl))
  f305 := Tryz.func94.trans (congrArg some (by kernel_rfl))
  f306 := Tryz.func95.trans (congrArg some (by kernel_rfl))
  f307 := Tryz.func96.trans (congrArg some (by kernel_rfl))
  f308 := Tryz.func97.trans (congrArg some (by kernel_rfl))
  f309 := Tryz.func98.trans (congrArg some (by kernel_rfl))
  f310 := Tryz.func99.trans (congrArg some (by kernel_rfl))
  f329 := Tryz.func140.trans (congrArg some (by kernel_rfl))
  f330 := Tryz.func141.trans (congrArg some (by kernel_rfl))
  f333 := Tryz.func139.trans (congrArg some (by kernel_rfl))
  f334 := Tryz.func142.trans (congrArg some (by kernel_rfl))
  f335 := Tryz.func143.trans (congrArg some (by kernel_rfl))
  f336 := Tryz.func144.trans (congrArg some (by kernel_rfl))
  f344 := Tryz.func167.trans (congrArg some (by kernel_rfl))
  t0 := Tryz.underlying0
  a0 := Tryz.isAgg0
  z0 := Tryz.sizeOf0
  v0 := Tryz.zeroValue0
  t3 := Tryz.underlying3
  a3 := Tryz.isAgg3
  z3 := Tryz.sizeOf3
  v3 := Tryz.zeroValue3
  t4 := Tryz.underlying4
  a4 := Tryz.isAgg4
  z4 := Tryz.sizeOf4
  v4 := Tryz.zeroValue4
  t5 := Tryz.underlying5
  a5 := Tryz.isAgg5
  z5 := Tryz.sizeOf5
  v5 := Tryz.zeroValue5
  t9 := Tryz.underlying9
  a9 := Tryz.isAgg9
  z9 := Tryz.sizeOf9
  v9 := Tryz.zeroValue9
  t31 := Tryz.underlying22
  a31 := Tryz.isAgg22
  z31 := Tryz.sizeOf22
  v31 := Tryz.zeroValue22
  t46 := Tryz.underlying102
  a46 := Tryz.isAgg102
  z46 := Tryz.sizeOf102
  v46 := Tryz.zeroValue102
  t51 := Tryz.underlying137
  a51 := Tryz.isAgg137
  z51 := Tryz.sizeOf137
  v51 := Tryz.zeroValue137
  t53 := Tryz.underlying40
  a53 := Tryz.isAgg40
  z53 := Tryz.sizeOf40
  v53 := Tryz.zeroValue40
  t131 := Tryz.underlying134
  a131 := Tryz.isAgg134
  z131 := Tryz.sizeOf134
  v131 := Tryz.zeroValue134
  t182 := Tryz.underlying128
  a182 := Tryz.isAgg128
  z182 := Tryz.sizeOf128
  v182 := Tryz.zeroValue128
  t183 := Tryz.underlying129
  a183 := Tryz.isAgg129
  z183 := Tryz.sizeOf129
  v183 := Tryz.zeroValue129
  t218 := Tryz.underlying175
  a218 := Tryz.isAgg175
  z218 := Tryz.sizeOf175
  v218 := Tryz.zeroValue175
  t222 := Tryz.underlying179
  a222 := Tryz.isAgg179
  z222 := Tryz.sizeOf179
  v222 := Tryz.zeroValue179
  t228 := Tryz.underlying203
  a228 := Tryz.isAgg203
  z228 := Tryz.sizeOf203
  v228 := Tryz.zeroValue203
  t229 := Tryz.underlying204
  a229 := Tryz.isAgg204
  z229 := Tryz.sizeOf204
  v229 := Tryz.zeroValue204 }
open Go.Sort Go.RowKit in
theorem Tryz.slices_Sort_string (blk off cap : Nat) (ss : List (List UInt8)) (w : World) (hH : Holds encStr w blk off ss.toArray) (hblk : blk < w.heap.size) (hsz : ss.length < 4611686018427387904) :
    Calls Tryz.prog 32 #[.slice (some ⟨blk, off, none⟩) ss.length cap] w fun e w' =>
      e = .returned (.tuple #[]) ∧ ∃ n os, w' = grow (putRow encStr (Sort.ahead w n) blk off (ss.mergeSort fun x y => decide (x ≤ y)).toArray) os := Any.slices_Sort_string Tryz.lays190 blk off cap ss w hH hblk hsz
def Tryz.lays146_ren : Go.Shelf.Ren := ⟨fun | 146 => 21 | 221 => 45 | 268 => 78 | 138 => 79 | 143 => 80 | 195 => 128 | 197 => 129 | 218 => 130 | 219 => 77 | 260 => 163 | 217 => 124 | 225 => 125 | 224 => 126 | 267 => 127 | 266 => 161 | 314 => 162 | n => n, fun | 9 => 9 | 31 => 22 | 3 => 3 | 4 => 4 | 0 => 0 | 105 => 166 | 21 => 21 | 5 => 5 | 46 => 102 | 119 => 213 | 139 => 216 | 138 => 215 | 146 => 197 | 51 => 137 | n => n, fun | 1 => 0 | 3 => 2 | 4 => 3 | n => n⟩
theorem Tryz.lays146 : Go.Proofs.Lays.n146 Tryz.prog Tryz.lays146_ren := {
  mixed := by kernel_rfl
  f138 := Tryz.func79.trans (congrArg some (by kernel_rfl))
  f143 := Tryz.func80.trans (congrArg some (by kernel_rfl))
  f146 := Tryz.func21.trans (congrArg some (by kernel_rfl))
  f195 := Tryz.func128.trans (congrArg some (by kernel_rfl))
  f197 := Tryz.func129.trans (congrArg some (by kernel_rfl))
  f217 := Tryz.func124.trans (congrArg some (by kernel_rfl))
  f218 := Tryz.func130.trans (congrArg some (by kernel_rfl))
  f219 := Tryz.func77.trans (congrArg some (by kernel_rfl))
  f221 := Tryz.func45.trans (congrArg some (by kernel_rfl))
  f224 := Tryz.func126.trans (congrArg some (by kernel_rfl))
  f225 := Tryz.func125.trans (congrArg some (by kernel_rfl))
  f260 := Tryz.func163.trans (congrArg some (by kernel_rfl))
  f266 := Tryz.func161.trans (congrArg some (by kernel_rfl))
  f267 := Tryz.func127.trans (congrArg some (by kernel_rfl))
  f268 := Tryz.func78.trans (congrArg some (by kernel_rfl))
  f314 := Tryz.func162.trans (congrArg some (by kernel_rfl))
  t0 := Tryz.underlying0
  a0 := Tryz.isAgg0
  z0 := Tryz.sizeOf0
  v0 := Tryz.zeroValue0
  t3 := Tryz.underlying3
  a3 := Tryz.isAgg3
  z3 := Tryz.sizeOf3
  v3 := Tryz.zeroValue3
  t4 := Tryz.underlying4
  a4 := Tryz.isAgg4
  z4 := Tryz.sizeOf4
  v4 := Tryz.zeroValue4
  t5 := Tryz.underlying5
  a5 := Tryz.isAgg5
  z5 := Tryz.sizeOf5
  v5 := Tryz.zeroValue5
  t9 := Tryz.underlying9
  a9 := Tryz.isAgg9
  z9 := Tryz.sizeOf9
  v9 := Tryz.zeroValue9
  t21 := Tryz.underlying21
  a21 := Tryz.isAgg21
  z21 := Tryz.sizeOf21
  v21 := Tryz.zeroValue21
  t31 := Tryz.underlying22
  a31 := Tryz.isAgg22
  z31 := Tryz.sizeOf22
  v31 := Tryz.zeroValue22
  t46 := Tryz.underlying102
  a46 := Tryz.isAgg102
  z46 := Tryz.sizeOf102
  v46 := Tryz.zeroValue102
  t51 := Tryz.underlying137
  a51 := Tryz.isAgg137
  z51 := Tryz.sizeOf137
  v51 := Tryz.zeroValue137
  t105 := Tryz.underlying166
  a105 := Tryz.isAgg166
  z105 := Tryz.sizeOf166
  v105 := Tryz.zeroValue166
  t119 := Tryz.underlying213
  a119 := Tryz.isAgg213
  z119 := Tryz.sizeOf213
  t138 := Tryz.underlying215
  a138 := Tryz.isAgg215
  z138 := Tryz.sizeOf215
  v138 := Tryz.zeroValue215
  t139 := Tryz.underlying216
  a139 := Tryz.isAgg216
  z139 := Tryz.sizeOf216
  v139 := Tryz.zeroValue216
  t146 := Tryz.underlying197
  a146 := Tryz.isAgg197
  z146 := Tryz.sizeOf197
  v146 := Tryz.zeroValue197
  g1 := by kernel_rfl
  g3 := by kernel_rfl
  g4 := by kernel_rfl }
open Go.RowKit Go.Lib in
theorem Tryz.strings_Split (s sep : ByteArray) (m : Int) (w : World) (hs : s.size < 4294967281) (hm : w.cell? ⟨0, 0, none⟩ = some (.int .i64 m)) (h1 : 1 ≤ sep.size) :
    Calls Tryz.prog 21 #[.string s, .string sep] w fun e w' =>
      e = .returned (.slice (some ⟨w.heap.size, 0, none⟩) (Lib.countB s sep + 1) (Lib.countB s sep + 1)) ∧ w' = w.alloc (.cells ((Lib.splitB sep 0 (Lib.countB s sep) s).map Value.string).toArray 9) := Any.strings_Split Tryz.lays146 (by kernel_rfl) s sep m w hs hm h1
open Go.RowKit Go.Sort in
theorem Tryz.slices_Sort_string_none (p : Option Addr) (cap : Nat) (w : World) :
    Calls Tryz.prog 32 #[.slice p 0 cap] w fun e w' => e = .returned (.tuple #[]) ∧ w' = w := Any.slices_Sort_string_none Tryz.lays190 p cap w
end Go.Proofs
end
section
namespace Go.Proofs
open Go.Shelf
def Tryz.sortPair_ren : Go.Shelf.Ren := ⟨fun | 6 => 149 | 15 => 60 | 14 => 171 | 28 => 100 | 29 => 101 | 20 => 179 | 21 => 180 | 22 => 181 | 23 => 182 | 24 => 183 | 25 => 184 | 26 => 185 | 27 => 186 | 46 => 188 | 47 => 140 | 48 => 141 | 49 => 189 | 50 => 190 | 57 => 191 | n => n, fun | 22 => 140 | 24 => 185 | 25 => 189 | 3 => 3 | 39 => 102 | 0 => 0 | 53 => 137 | 55 => 40 | 4 => 4 | 46 => 129 | 45 => 128 | 50 => 134 | 5 => 5 | 9 => 9 | 66 => 175 | 70 => 179 | 76 => 203 | 77 => 204 | n => n, fun | n => n⟩
theorem Tryz.sortPair : Go.Proofs.SlLaysF0.n6 Tryz.prog Tryz.sortPair_ren := {
  mixed := by kernel_rfl
  f6 := ⟨Tryz.f149.name, by decide, Tryz.func149.trans (congrArg some (by kernel_rfl))⟩
  f14 := ⟨Tryz.f171.name, by decide, Tryz.func171.trans (congrArg some (by kernel_rfl))⟩
  f15 := Tryz.func60.trans (congrArg some (by kernel_rfl))
  f20 := ⟨Tryz.f179.name, by decide, Tryz.func179.trans (congrArg some (by kernel_rfl))⟩
  f21 := ⟨Tryz.f180.name, by decide, Tryz.func180.trans (congrArg some (by kernel_rfl))⟩
  f22 := ⟨Tryz.f181.name, by decide, Tryz.func181.trans (congrArg some (by kernel_rfl))⟩
  f23 := ⟨Tryz.f182.name, by decide, Tryz.func182.trans (congrArg some (by kernel_rfl))⟩
  f24 := ⟨Tryz.f183.name, by decide, Tryz.func183.trans (congrArg some (by kernel_rfl))⟩
  f25 := ⟨Tryz.f184.name, by decide, Tryz.func184.trans (congrArg some (by kernel_rfl))⟩
  f26 := ⟨Tryz.f185.name, by decide, Tryz.func185.trans (congrArg some (by kernel_rfl))⟩
  f27 := ⟨Tryz.f186.name, by decide, Tryz.func186.trans (congrArg some (by kernel_rfl))⟩
  f28 := Tryz.func100.trans (congrArg some (by kernel_rfl))
  f29 := Tryz.func101.trans (congrArg some (by kernel_rfl))
  f46 := ⟨Tryz.f188.name, by decide, Tryz.func188.trans (congrArg some (by kernel_rfl))⟩
  f47 := Tryz.func140.trans (congrArg some (by kernel_rfl))
  f48 := Tryz.func141.trans (congrArg some (by kernel_rfl))
  f49 := ⟨Tryz.f189.name, by decide, Tryz.func189.trans (congrArg some (by kernel_rfl))⟩
  f50 := ⟨Tryz.f190.name, by decide, Tryz.func190.trans (congrArg some (by kernel_rfl))⟩
  f57 := ⟨Tryz.f191.name, by decide, Tryz.func191.trans (congrArg some (by kernel_rfl))⟩
  t0 := Tryz.underlying0
  a0 := Tryz.isAgg0
  z0 := Tryz.sizeOf0
  v0 := Tryz.zeroValue0
  t3 := Tryz.underlying3
  a3 := Tryz.isAgg3
  z3 := Tryz.sizeOf3
  v3 := Tryz.zeroValue3
  t4 := Tryz.underlying4
  a4 := Tryz.isAgg4
  z4 := Tryz.sizeOf4
  v4 := Tryz.zeroValue4
  t5 := Tryz.underlying5
  a5 := Tryz.isAgg5
  z5 := Tryz.sizeOf5
  v5 := Tryz.zeroValue5
  t9 := Tryz.underlying9
  a9 := Tryz.isAgg9
  z9 := Tryz.sizeOf9
  v9 := Tryz.zeroValue9
  t22 := Tryz.underlying140
  a22 := Tryz.isAgg140
  z22 := Tryz.sizeOf140
  v22 := Tryz.zeroValue140
  t25 := Tryz.underlying189
  a25 := Tryz.isAgg189
  z25 := Tryz.sizeOf189
  v25 := Tryz.zeroValue189
  t39 := Tryz.underlying102
  a39 := Tryz.isAgg102
  z39 := Tryz.sizeOf102
  v39 := Tryz.zeroValue102
  t45 := Tryz.underlying128
  a45 := Tryz.isAgg128
  z45 := Tryz.sizeOf128
  v45 := Tryz.zeroValue128
  t46 := Tryz.underlying129
  a46 := Tryz.isAgg129
  z46 := Tryz.sizeOf129
  v46 := Tryz.zeroValue129
  t50 := Tryz.underlying134
  a50 := Tryz.isAgg134
  z50 := Tryz.sizeOf134
  v50 := Tryz.zeroValue134
  t53 := Tryz.underlying137
  a53 := Tryz.isAgg137
  z53 := Tryz.sizeOf137
  v53 := Tryz.zeroValue137
  t55 := Tryz.underlying40
  a55 := Tryz.isAgg40
  z55 := Tryz.sizeOf40
  v55 := Tryz.zeroValue40
  t66 := Tryz.underlying175
  a66 := Tryz.isAgg175
  z66 := Tryz.sizeOf175
  v66 := Tryz.zeroValue175
  t70 := Tryz.underlying179
  a70 := Tryz.isAgg179
  z70 := Tryz.sizeOf179
  v70 := Tryz.zeroValue179
  t76 := Tryz.underlying203
  a76 := Tryz.isAgg203
  z76 := Tryz.sizeOf203
  v76 := Tryz.zeroValue203
  t77 := Tryz.underlying204
  a77 := Tryz.isAgg204
  z77 := Tryz.sizeOf204
  v77 := Tryz.zeroValue204 }
end Go.Proofs
end
section
set_option linter.unusedVariables false
namespace Go.Proofs.YtghcadbmjglidaaGreatDoor.Uri
open Go.Sort
abbrev Pr := List UInt8 × List UInt8
def lt (x y : List UInt8) : Bool := Op.bytesLess x y
theorem lt_eq (x y : List UInt8) : lt x y = decide (x < y) := bytesLess_eq x y
def gtB (x y : List UInt8) : Bool := !(lt x y || x == y)
theorem gtB_eq (x y : List UInt8) : gtB x y = decide (y < x) := by
  unfold gtB
  rw [lt_eq]
  by_cases h : x = y
  · subst h; simp [List.lt_irrefl]
  · have hb : (x == y) = false := by simpa using h
    rw [hb, Bool.or_false]
    by_cases h1 : x < y
    · have : ¬ y < x := fun h2 => List.lt_irrefl _ (List.lt_trans h1 h2)
      simp [h1, this]
    · have h2 : y < x := by
        rcases List.le_total x y with h3 | h3
        · exact Classical.byContradiction fun h4 => h (List.le_antisymm h3 (List.not_lt.1 h4 |> fun q => by simpa using List.not_lt.1 h1))
        · exact Classical.byContradiction fun h4 => h (List.le_antisymm (List.not_lt.1 h4) h3)
      simp [h1, h2]
def cmpS (x y : List UInt8) : Int := if lt x y then -1 else if gtB x y then 1 else 0
def cmpP (a b : Pr) : Int := if cmpS a.1 b.1 ≠ 0 then cmpS a.1 b.1 else cmpS a.2 b.2
def gtP (a b : Pr) : Bool := gtB a.1 b.1 || (a.1 == b.1 && gtB a.2 b.2)
theorem cmpS_cases (x y : List UInt8) : (cmpS x y = -1 ∧ x < y) ∨ (cmpS x y = 0 ∧ x = y) ∨ (cmpS x y = 1 ∧ y < x) := by
  unfold cmpS
  rw [lt_eq, gtB_eq]
  by_cases h1 : x < y
  · left; simp [h1]
  · by_cases h2 : y < x
    · right; right; simp [h1, h2]
    · right; left
      exact ⟨by simp [h1, h2], List.le_antisymm (List.not_lt.1 h2) (List.not_lt.1 h1)⟩
def PLt (a b : Pr) : Prop := a.1 < b.1 ∨ (a.1 = b.1 ∧ a.2 < b.2)
theorem ltOf_iff (a b : Pr) : (ltOf cmpP a b = true) ↔ PLt a b := by
  unfold ltOf cmpP PLt
  rcases cmpS_cases a.1 b.1 with ⟨h, h1⟩ | ⟨h, h1⟩ | ⟨h, h1⟩
  · simp [h, h1]
  · rw [if_neg (by simp [h])]
    rcases cmpS_cases a.2 b.2 with ⟨k, k1⟩ | ⟨k, k1⟩ | ⟨k, k1⟩
    · rw [k]; simp [h1, k1]
    · rw [k]; simp [h1, k1, List.lt_irrefl]
    · have : ¬ a.2 < b.2 := fun q => List.lt_irrefl _ (List.lt_trans q k1)
      rw [k]; simp [h1, this, List.lt_irrefl]
  · have h2 : ¬ a.1 < b.1 := fun q => List.lt_irrefl _ (List.lt_trans q h1)
    have h3 : a.1 ≠ b.1 := fun q => List.lt_irrefl b.1 (by rw [q] at h1; exact h1)
    simp [h, h2, h3]
theorem PLt.irrefl (a : Pr) : ¬ PLt a a := by
  rintro (h | ⟨_, h⟩) <;> exact List.lt_irrefl _ h
theorem PLt.trans {a b c : Pr} (h : PLt a b) (k : PLt b c) : PLt a c := by
  rcases h with h | ⟨h, h'⟩ <;> rcases k with k | ⟨k, k'⟩
  · exact .inl (List.lt_trans h k)
  · exact .inl (k ▸ h)
  · exact .inl (h ▸ k)
  · exact .inr ⟨h.trans k, List.lt_trans h' k'⟩
theorem PLt.tri (a b : Pr) : PLt a b ∨ a = b ∨ PLt b a := by
  rcases cmpS_cases a.1 b.1 with ⟨_, h1⟩ | ⟨_, h1⟩ | ⟨_, h1⟩
  · exact .inl (.inl h1)
  · rcases cmpS_cases a.2 b.2 with ⟨_, k1⟩ | ⟨_, k1⟩ | ⟨_, k1⟩
    · exact .inl (.inr ⟨h1, k1⟩)
    · exact .inr (.inl (Prod.ext h1 k1))
    · exact .inr (.inr (.inr ⟨h1.symm, k1⟩))
  · exact .inr (.inr (.inl h1))
theorem ltOf_false (a b : Pr) : (ltOf cmpP a b = false) ↔ ¬ PLt a b := by rw [← ltOf_iff]; simp
def PLe (a b : Pr) : Prop := ¬ PLt b a
theorem PLe.trans {a b c : Pr} (h : PLe a b) (k : PLe b c) : PLe a c := by
  intro q
  rcases PLt.tri a b with h1 | h1 | h1
  · exact k (q.trans h1)
  · subst h1; exact k q
  · exact h h1
theorem PLe.anti {a b : Pr} (h : PLe a b) (k : PLe b a) : a = b := by
  rcases PLt.tri a b with h1 | h1 | h1
  · exact (k h1).elim
  · exact h1
  · exact (h h1).elim
theorem swo : SWO (ltOf cmpP) where
  irrefl x := by rw [ltOf_false]; exact PLt.irrefl x
  trans x y z h k := by rw [ltOf_iff] at *; exact h.trans k
  ntrans x y z h k := by rw [ltOf_false] at *; exact (show PLe z x from PLe.trans (show PLe z y from k) (show PLe y x from h))
theorem parts (x y : Pr) (h : ltOf cmpP x y = false) (k : ltOf cmpP y x = false) : x = y := by
  rw [ltOf_false] at h k
  exact PLe.anti (show PLe x y from k) (show PLe y x from h)
def sorted (l : List Pr) : List Pr := l.mergeSort fun x y => !(ltOf cmpP) y x
theorem sorted_perm (l : List Pr) : (sorted l).Perm l := List.mergeSort_perm l _
def pos (p : Pr) (out : List Pr) : Nat → Nat
  | 0 => 0
  | k + 1 => if gtP (out.getD k ([], [])) p then pos p out k else k + 1
theorem sorted_length (l : List Pr) : (sorted l).length = l.length := (sorted_perm l).length_eq
def jn (sep : List UInt8) : List (List UInt8) → List UInt8
  | [] => []
  | x :: t => x ++ t.flatMap (sep ++ ·)
theorem jn_snoc (sep : List UInt8) (l : List (List UInt8)) (x : List UInt8) (h : l ≠ []) : jn sep (l ++ [x]) = jn sep l ++ sep ++ x := by
  match l, h with
  | y :: t, _ => simp [jn]
theorem jn_one (sep x : List UInt8) : jn sep [x] = x := by simp [jn]
def piece (p : Pr) : List UInt8 := p.1 ++ 61 :: p.2
def enc2 (p : Pr) : Pr := (enc false p.1, enc false p.2)
def canon (l : List Pr) : List UInt8 := jn [38] ((sorted (l.map enc2)).map piece)
theorem jn_len (sep : List UInt8) (l : List (List UInt8)) : (jn sep l).length ≤ (l.map List.length).sum + sep.length * l.length := by
  match l with
  | [] => simp [jn]
  | x :: t =>
    have : ∀ t : List (List UInt8), (t.flatMap (sep ++ ·)).length = (t.map List.length).sum + sep.length * t.length := by
      intro t
      induction t with
      | nil => rfl
      | cons y t ih => simp [ih, Nat.mul_add]; omega
    simp [jn, this, Nat.mul_add]; omega
end Go.Proofs.YtghcadbmjglidaaGreatDoor.Uri
end
section
set_option linter.unusedVariables false
namespace Go.Proofs.YtghcadbmjglidaaGreatDoor
open Go.RowKit
theorem own_fr {M : Nat → Prop} {w w' : World} {base n size : Nat} {e : TypeId} {v : Value} {xs : List Value} (h : w.ownsRow base e size v n xs) (hf : Fr M w w') (hM : ∀ k, base ≤ k → k < w.heap.size → v.ownBlock = some k → ¬ M k) : w'.ownsRow base e size v n xs := by
  refine ⟨h.1, ?_⟩
  rcases h.2 with hn | ⟨g, cap, cur, rfl, hg, hh, r⟩
  · exact .inl hn
  · exact .inr ⟨g, cap, cur, rfl, hg, hf.heap hh (hM g hg (block_lt hh) rfl), r⟩
section
variable {P : Program} {ops : Array Oper} {rest : List Oper} {o : Oper} {a : Act} {Q : Exit → Act → World → Prop}
theorem step_app2 {K : Act → World → Prop} {E : Prop} {W : World} {base n size bytes : Nat} {v : Value} {xs : List Value} {t e : TypeId} {z : Value} {s x : Operand} {c : Nat} {ad : Addr} (hown : W.ownsRow base e size v n xs) (m : Nat) (news : List Value)
    (ht : P.underlying t = some (.slice e)) (hinfo : (P.info? e).map (fun i => (i.zero, i.size, i.bytes)) = some (some z, size, bytes)) (hz : z.cells.size = size) (hsz : 0 < size)
    (hl : news.length = m * size) (h1 : ∀ u ∈ news, u.oneCell' = true) (h63 : n + m ≤ 140737488355328) (hbytes : (n + m) * bytes ≤ 140737488355328) (hbase : base ≤ W.heap.size)
    (hgd : o.guard = none) (ho : o.op = .call { callee := .builtin .append, args := #[s, x], argTypes := #[t, t] }) (hs : a.eval s = v) (hx : a.eval x = .slice (some ad) m c) (hnews : ∀ j u, news[j]? = some u → W.cell? (ad.add j) = some u)
    (h : ∀ v' w', w'.ownsRow base e size v' (n + m) (xs ++ news) → Fr (fun k => v.ownBlock = some k) W w' → K (a.put o.dst v') w') :
    if Region.wanted o (yielded ops a.tmps) = true then Oper.wp P o a W K Q else E := by
  obtain ⟨i0, hi, hz0, hz1, hz2⟩ := info_parts hinfo
  rw [if_pos (by simp [Region.wanted, hgd])]
  exact wp_append_own _ s x t ho base e i0 z size bytes ht hi hz0 hz1 hz2 hz hsz v n xs hs hown ad m c news hx hl hnews h1 (by unfold maxLen; omega) hbytes hbase fun v' w' h2 h3 _ => h v' w' h2 (Fr.grown (Fr.refl _ _) h3 fun k hk _ => hk)
theorem app_row2 {W : World} {base n size bytes : Nat} {v : Value} {xs : List Value} {t e : TypeId} {z : Value} {s x : Operand} {c : Nat} {ad : Addr} (hown : W.ownsRow base e size v n xs) (m : Nat) (news : List Value)
    (ht : P.underlying t = some (.slice e)) (hinfo : (P.info? e).map (fun i => (i.zero, i.size, i.bytes)) = some (some z, size, bytes)) (hz : z.cells.size = size) (hsz : 0 < size)
    (hl : news.length = m * size) (h1 : ∀ u ∈ news, u.oneCell' = true) (h63 : n + m ≤ 140737488355328) (hbytes : (n + m) * bytes ≤ 140737488355328) (hbase : base ≤ W.heap.size)
    (hgd : o.guard = none) (ho : o.op = .call { callee := .builtin .append, args := #[s, x], argTypes := #[t, t] }) (hs : a.eval s = v) (hx : a.eval x = .slice (some ad) m c) (hnews : ∀ j u, news[j]? = some u → W.cell? (ad.add j) = some u)
    (h : ∀ v' w', w'.ownsRow base e size v' (n + m) (xs ++ news) → Fr (fun k => v.ownBlock = some k) W w' → wpList P ops Q rest (a.put o.dst v') w') :
    wpList P ops Q (o :: rest) a W := by
  obtain ⟨i0, hi, hz0, hz1, hz2⟩ := info_parts hinfo
  exact wpList_append_own _ hgd s x t ho base e i0 z size bytes ht hi hz0 hz1 hz2 hz hsz v n xs hs hown ad m c news hx hl hnews h1 (by unfold maxLen; omega) hbytes hbase fun v' w' h2 h3 _ => h v' w' h2 (Fr.grown (Fr.refl _ _) h3 fun k hk _ => hk)
theorem run_app_none {W : World} {t ty e : TypeId} {i : TypeInfo} (ht : P.underlying t = some (.slice e)) (hi : P.info? e = some i) (B X : Option Addr) (l c0 c : Nat) (hle : l ≤ c0) :
    (Builtin.append_ #[t, t] ty #[.slice B l c0, .slice X 0 c]).run P W = .ok (.slice B l c0) W := by
  cases B <;> cases X <;> simp [Builtin.append_, run_underlying ht, sizeOf, typeInfo, hi, Builtin.lenOf, hle, Builtin.firstCells, storeCells, loadCells, loadCellsFrom]
end
theorem own_lower {w : World} {base base' n size : Nat} {e : TypeId} {v : Value} {xs : List Value} (h : w.ownsRow base e size v n xs) (hb : base' ≤ base) : w.ownsRow base' e size v n xs :=
  ⟨h.1, h.2.imp id fun ⟨g, cap, cur, hv, hg, r⟩ => ⟨g, cap, cur, hv, Nat.le_trans hb hg, r⟩⟩
theorem own_empty {W : World} {base g size : Nat} {e : TypeId} (h : W.heap[g]? = some (.cells #[] e (0, 0))) (hb : base ≤ g) : W.ownsRow base e size (.slice (some ⟨g, 0, none⟩) 0 0) 0 [] :=
  ⟨by simp, .inr ⟨g, 0, #[], rfl, hb, h, Nat.le_refl _, by simp [maxLen], by simp, by simp⟩⟩
theorem Fr.own {M : Nat → Prop} {w w1 w2 : World} {base n size : Nat} {e : TypeId} {v : Value} {xs : List Value} (h : Fr M w w1) (hown : w1.ownsRow base e size v n xs) (hf : Fr (fun k => v.ownBlock = some k) w1 w2) (hM : ∀ k, base ≤ k → M k) : Fr M w w2 :=
  Fr.then_ h hf fun k _ he => hM k (hown.lt k he).1
end Go.Proofs.YtghcadbmjglidaaGreatDoor
end
section
set_option linter.unusedVariables false
namespace Go.Proofs.YtghcadbmjglidaaGreatDoor
open Go.RowKit
theorem bInfo : (Tryz.prog.info? 88).map (·.size) = some 2 := by kernel_rfl
theorem bLies : liesAt Tryz.prog Tryz.prog.depth 88 (2 / Tryz.prog.cellsOf 88) 0 88 1 = true := by kernel_rfl
theorem byteInfo : (Tryz.prog.info? 5).map (fun i => (i.zero, i.size, i.bytes)) = some (some (.int .u8 0), 1, 1) := by kernel_rfl
set_option maxHeartbeats 1000000 in
set_option maxRecDepth 100000 in
theorem copyCheck_used (b : Nat) (w : World) (h0 : w.cell? ⟨b, 0, none⟩ = some (.pointer (some ⟨b, 0, none⟩))) :
    Calls Tryz.prog 88 #[.pointer (some ⟨b, 0, none⟩)] w fun e w' => e = .returned (.tuple #[]) ∧ w' = w := by
  obtain ⟨j, hj, _⟩ := Option.map_eq_some_iff.1 bInfo
  go_enter Tryz.func88, Tryz.ntmps88
  go_wp2
  rw [Lib.run_neq_ptr_same w _ Tryz.underlying86 hj]
  go_wp2
  go_end0
  exact ⟨rfl, rfl⟩
set_option maxHeartbeats 1000000 in
set_option maxRecDepth 100000 in
theorem copyCheck_fresh (b : Nat) (w : World) (h0 : w.cell? ⟨b, 0, none⟩ = some (.pointer none)) (hsh : w.shape? b = some (88, 2)) (hfz : w.frozen? ⟨b, 0, none⟩ = false) :
    Calls Tryz.prog 88 #[.pointer (some ⟨b, 0, none⟩)] w fun e w' => e = .returned (.tuple #[]) ∧ w' = w.setCell ⟨b, 0, none⟩ (.pointer (some ⟨b, 0, none⟩)) := by
  obtain ⟨j, hj, hjs⟩ := Option.map_eq_some_iff.1 bInfo
  go_enter Tryz.func88, Tryz.ntmps88
  go_wp2
  rw [Lib.run_to_unsafe w ⟨b, 0, none⟩ Tryz.underlying86 Tryz.underlying172 hj (by rw [hjs]; decide) hsh (Nat.zero_lt_succ 1)]
  simp only [Result.andThen]
  rw [Oper.upon_value]
  go_wp2
  rw [run_callFunc_extern Tryz.func136 (by kernel_rfl) (by kernel_rfl) (by kernel_rfl) (e := Extern.AbiNoEscape.same) (by kernel_rfl)]
  rw [Lib.run_noEscape]
  simp only [Result.andThen]
  rw [Oper.upon_value]
  go_wp2
  rw [Lib.run_from_unsafe w ⟨b, 0, none⟩ Tryz.underlying172 Tryz.underlying86 hj hsh bLies]
  simp only [Result.andThen]
  rw [Oper.upon_value]
  go_wp2
  go_end0
  exact ⟨rfl, rfl⟩
def Bld (b base : Nat) (l : List UInt8) (w : World) : Prop :=
  b < base ∧ ∃ p v, (p = .pointer none ∨ p = .pointer (some ⟨b, 0, none⟩)) ∧ w.heap[b]? = some (.cells #[p, v] 88 (0, 0)) ∧ w.ownsRow base 5 1 v l.length (bcells l)
def BldW (b base : Nat) (l : List UInt8) (w : World) : Prop :=
  b < base ∧ ∃ v, w.heap[b]? = some (.cells #[.pointer (some ⟨b, 0, none⟩), v] 88 (0, 0)) ∧ w.ownsRow base 5 1 v l.length (bcells l)
abbrev BldM (b base : Nat) : Nat → Prop := fun k => k = b ∨ base ≤ k
theorem Bld.fresh {w : World} {b base : Nat} (h : w.heap[b]? = some (.cells #[.pointer none, .slice none 0 0] 88 (0, 0))) (hb : b < base) : Bld b base [] w :=
  ⟨hb, _, _, .inl rfl, h, World.ownsRow_nil _ _ _ _⟩
theorem Bld.kept {b base : Nat} {l : List UInt8} {w w' : World} {M : Nat → Prop} (h : Bld b base l w) (hf : Fr M w w') (hb : ¬ M b) (hr : ∀ k, base ≤ k → k < w.heap.size → ¬ M k) : Bld b base l w' := by
  obtain ⟨h0, p, v, hp, h1, h2⟩ := h
  refine ⟨h0, p, v, hp, hf.heap h1 hb, h2.1, ?_⟩
  rcases h2.2 with hn | ⟨g, cap, cur, hv, hg, hh, r⟩
  · exact .inl hn
  · exact .inr ⟨g, cap, cur, hv, hg, hf.heap hh (hr g hg (block_lt hh)), r⟩
theorem copyCheck_ok (b base : Nat) (l : List UInt8) (w : World) (h : Bld b base l w) :
    Calls Tryz.prog 88 #[.pointer (some ⟨b, 0, none⟩)] w fun e w' => e = .returned (.tuple #[]) ∧ BldW b base l w' ∧ Fr (fun k => k = b) w w' := by
  obtain ⟨h0, p, v, hp, h1, h2⟩ := h
  rcases hp with rfl | rfl
  · refine (copyCheck_fresh b w (by simp [World.cell?, h1]) (by simp [World.shape?, h1]) (by simp [World.frozen?, h1])).mono ?_
    rintro e w' ⟨rfl, rfl⟩
    refine ⟨rfl, ⟨h0, v, by simp [World.setCell, Array.getElem?_modify, h1], ?_⟩, (Fr.refl _ _).setCell _ _ fun _ => rfl⟩
    exact ownsRow_setCell_below h2 h0 _
  · refine (copyCheck_used b w (by simp [World.cell?, h1])).mono ?_
    rintro e w' ⟨rfl, rfl⟩
    exact ⟨rfl, ⟨h0, v, h1, h2⟩, Fr.refl _ _⟩
theorem ownBlock_lt {w : World} {base e size n b : Nat} {v : Value} {xs : List Value} (h : w.ownsRow base e size v n xs) (hb : b < base) : some b ≠ v.ownBlock := fun he => by
  have := (h.lt b he.symm).1; omega
set_option maxHeartbeats 2000000 in
set_option maxRecDepth 100000 in
theorem WriteByte_ok (b base : Nat) (l : List UInt8) (c : UInt8) (w : World) (h : Bld b base l w) (hlen : l.length + 1 ≤ 140737488355328) (hBw : base ≤ w.heap.size) :
    Calls Tryz.prog 82 #[.pointer (some ⟨b, 0, none⟩), .int .u8 (c.toNat : Int)] w fun e w' => e = .returned .nilIface ∧ Bld b base (l ++ [c]) w' ∧ Fr (BldM b base) w w' := by
  obtain ⟨i0, hi, hz0, hz1, hz2⟩ := info_parts byteInfo
  go_enter Tryz.func82, Tryz.ntmps82
  go_wp2_with (go_at_call 88; refine (copyCheck_ok b base l _ h).mono ?_)
  rintro e w1 ⟨rfl, ⟨hb0, v, hbk, hown⟩, hf1⟩
  have c0 : w1.cell? ⟨b, 0, none⟩ = some (.pointer (some ⟨b, 0, none⟩)) := by rw [Lib.cell_of_heap hbk]; rfl
  have c1 : w1.cell? ⟨b, 1, none⟩ = some v := by rw [Lib.cell_of_heap hbk]; rfl
  go_wp2_with (at_builtin; refine wpList_append_own _ rfl _ _ 37 rfl base 5 i0 (.int .u8 0) 1 1 Tryz.underlying37 hi hz0 hz1 hz2 rfl (by decide) _ _ _ rfl (hown.alloc _) ⟨w1.heap.size, 0, none⟩ 1 1 [.int .u8 (c.toNat : Int)] rfl rfl ?c1 ?c2 ?c3 ?c4 ?c5 ?_)
  case c1 =>
    intro j u hj
    match j, hj with
    | 0, hj => simp at hj; subst hj; simp [Addr.add]
  case c2 => intro u hu; simp at hu; subst hu; rfl
  case c3 => unfold maxLen; omega
  case c4 => omega
  case c5 => have := hf1.size; simp; omega
  intro v' w2 hown' hgrow _
  have hlt : b < w1.heap.size := block_lt hbk
  have hne := ownBlock_lt hown hb0
  have hb2 : w2.heap[b]? = some (.cells #[.pointer (some ⟨b, 0, none⟩), v] 88 (0, 0)) := by
    rw [hgrow.block b (by simp; omega) hne, Lib.alloc_old w1 _ b hlt]
    exact hbk
  have d0 : w2.cell? ⟨b, 0, none⟩ = some (.pointer (some ⟨b, 0, none⟩)) := by rw [Lib.cell_of_heap hb2]; rfl
  have d1 : w2.cell? ⟨b, 1, none⟩ = some v := by rw [Lib.cell_of_heap hb2]; rfl
  have f1 : w2.frozen? ⟨b, 1, none⟩ = false := Lib.frozen_of_heap hb2 1
  obtain ⟨g, cap, rfl⟩ : ∃ g cap, v' = .slice (some ⟨g, 0, none⟩) (l.length + 1) cap := by
    rcases hown'.2 with ⟨_, h0⟩ | ⟨g, cap, cur, hv, _⟩
    · omega
    · exact ⟨g, cap, hv⟩
  go_wp2
  go_ret
  refine ⟨rfl, ⟨hb0, _, .slice (some ⟨g, 0, none⟩) (l.length + 1) cap, .inr rfl, heap_setCell hb2 _, ?_⟩, ?_⟩
  · have := ownsRow_setCell_below hown' (a := ⟨b, 1, none⟩) hb0 (.slice (some ⟨g, 0, none⟩) (l.length + 1) cap)
    rw [bcells_append, List.length_append]
    exact this
  · refine Fr.setCell (Fr.grown (Fr.alloc (hf1.mono fun k _ e => Or.inl e) _) hgrow ?_) _ _ fun _ => Or.inl rfl
    intro k hk _
    exact Or.inr (hown.lt k hk).1
set_option maxHeartbeats 2000000 in
set_option maxRecDepth 100000 in
theorem WriteString_ok (b base : Nat) (l m : List UInt8) (w : World) (h : Bld b base l w) (hlen : l.length + m.length ≤ 140737488355328) (hBw : base ≤ w.heap.size) :
    Calls Tryz.prog 53 #[.pointer (some ⟨b, 0, none⟩), .string ⟨m.toArray⟩] w fun e w' => (∃ n, e = .returned (.tuple #[.int .i64 n, .nilIface])) ∧ Bld b base (l ++ m) w' ∧ Fr (BldM b base) w w' := by
  obtain ⟨i0, hi, hz0, hz1, hz2⟩ := info_parts byteInfo
  obtain ⟨s, hs⟩ : ∃ s : ByteArray, s = ⟨m.toArray⟩ := ⟨_, rfl⟩
  have hsz : s.size = m.length := by rw [hs]; rfl
  have hsc : Lib.strCells s = bcells m := by rw [hs]; rfl
  rw [← hs]
  have Hs := Lib.hid hs
  have Hsz := Lib.hid hsz
  have Hsc := Lib.hid hsc
  clear hs hsz hsc
  go_enter Tryz.func53, Tryz.ntmps53
  go_wp2_with (go_at_call 88; refine (copyCheck_ok b base l _ h).mono ?_)
  rintro e w1 ⟨rfl, ⟨hb0, v, hbk, hown⟩, hf1⟩
  have c0 : w1.cell? ⟨b, 0, none⟩ = some (.pointer (some ⟨b, 0, none⟩)) := by rw [Lib.cell_of_heap hbk]; rfl
  have c1 : w1.cell? ⟨b, 1, none⟩ = some v := by rw [Lib.cell_of_heap hbk]; rfl
  go_wp2_with (at_builtin; refine Lib.wpList_append_own_string _ rfl _ _ 37 9 rfl base 5 i0 Tryz.underlying37 Tryz.underlying9 hi hz0 hz1 hz2 _ _ _ rfl hown s rfl ?c3 ?c4 ?c5 ?_)
  case c3 => have := Hsz.out; unfold maxLen; omega
  case c4 => have := Hsz.out; omega
  case c5 => have := hf1.size; omega
  intro v' w2 hown' hgrow _
  have hlt : b < w1.heap.size := block_lt hbk
  have hne := ownBlock_lt hown hb0
  have hb2 : w2.heap[b]? = some (.cells #[.pointer (some ⟨b, 0, none⟩), v] 88 (0, 0)) := by
    rw [hgrow.block b hlt hne]
    exact hbk
  have d0 : w2.cell? ⟨b, 0, none⟩ = some (.pointer (some ⟨b, 0, none⟩)) := by rw [Lib.cell_of_heap hb2]; rfl
  have d1 : w2.cell? ⟨b, 1, none⟩ = some v := by rw [Lib.cell_of_heap hb2]; rfl
  have f1 : w2.frozen? ⟨b, 1, none⟩ = false := Lib.frozen_of_heap hb2 1
  obtain ⟨ao, n', cap, rfl⟩ : ∃ ao n' cap, v' = .slice ao n' cap := by
    rcases hown'.2 with ⟨hv, _⟩ | ⟨g, cap, cur, hv, _⟩
    · exact ⟨_, _, _, hv⟩
    · exact ⟨_, _, _, hv⟩
  go_wp2
  go_ret2
  refine ⟨⟨_, rfl⟩, ⟨hb0, _, .slice ao n' cap, .inr rfl, heap_setCell hb2 _, ?_⟩, ?_⟩
  · have := ownsRow_setCell_below hown' (a := ⟨b, 1, none⟩) hb0 (.slice ao n' cap)
    rw [Hsz.out, Hsc.out] at this
    rw [bcells_append, List.length_append]
    exact this
  · refine Fr.setCell (Fr.grown (hf1.mono fun k _ e => Or.inl e) hgrow ?_) _ _ fun _ => Or.inl rfl
    intro k hk _
    exact Or.inr (hown.lt k hk).1
theorem String_ok (b base : Nat) (l : List UInt8) (w : World) (h : Bld b base l w) (hb : b ≤ w.heap.size) :
    Calls Tryz.prog 54 #[.pointer (some ⟨b, 0, none⟩)] w fun e w' => e = .returned (.string ⟨l.toArray⟩) ∧ Below b w w' := by
  obtain ⟨h0, p, v, hp, h1, h2⟩ := h
  have hB : Lib.BuilderAt 88 5 b b p (bcells l) w := ⟨Nat.le_refl _, v, h1, by
    refine ⟨by simp, ?_⟩
    rcases h2.2 with hn | ⟨g, cap, cur, hv, hg, r⟩
    · exact .inl (by simpa [Lib.byteCells_length] using hn)
    · exact .inr ⟨g, cap, cur, by simpa [Lib.byteCells_length] using hv, by omega, by simpa [Lib.byteCells_length] using r⟩, fun e => ownBlock_lt h2 h0 e.symm⟩
  exact Tryz.Builder_String_any b b l w (by rcases hp with rfl | rfl <;> first | exact .inl hB | exact .inr hB) hb
end Go.Proofs.YtghcadbmjglidaaGreatDoor
end
section
set_option linter.unusedVariables false
namespace Go.Proofs.YtghcadbmjglidaaGreatDoor
open Go.RowKit
theorem idx_plain (c : UInt8) : (0 ≤ Lib.indexByte [45, 46, 95, 126] c) ↔ (c = 45 ∨ c = 46 ∨ c = 95 ∨ c = 126) := by
  simp only [Lib.indexByte]
  by_cases h1 : c = 45
  · subst h1; decide
  by_cases h2 : c = 46
  · subst h2; decide
  by_cases h3 : c = 95
  · subst h3; decide
  by_cases h4 : c = 126
  · subst h4; decide
  have g : ∀ a : UInt8, c ≠ a → (a == c) = false := fun a h => by simpa using fun e => h e.symm
  simp [g _ h1, g _ h2, g _ h3, g _ h4, h1, h2, h3, h4]
theorem plain_eq (c : UInt8) : Uri.plain c = decide ((97 ≤ (c.toNat : Int) ∧ (c.toNat : Int) ≤ 122) ∨ (65 ≤ (c.toNat : Int) ∧ (c.toNat : Int) ≤ 90) ∨ (48 ≤ (c.toNat : Int) ∧ (c.toNat : Int) ≤ 57) ∨ 0 ≤ Lib.indexByte [45, 46, 95, 126] c) := by
  rw [Bool.eq_iff_iff]
  simp only [Uri.plain, Bool.or_eq_true, Bool.and_eq_true, decide_eq_true_eq, UInt8.le_iff_toNat_le, beq_iff_eq, idx_plain, ← UInt8.toNat_inj, UInt8.reduceToNat]
  omega
theorem ret_bool {a b : Bool} (h : a = b) : Ending.returned (.bool a) = .returned (.bool b) := by rw [h]
set_option maxHeartbeats 1000000 in
theorem uri_plain (c : UInt8) (w : World) :
    Calls Tryz.prog 148 #[.int .u8 (c.toNat : Int)] w fun e w' => e = .returned (.bool (Uri.plain c)) ∧ w = w' := by
  have hp := Lib.hid (plain_eq c)
  go_enter Tryz.func148, Tryz.ntmps148
  go_wp2_with (go_at_call 81; refine (Tryz.strings_IndexByte _ _ _).mono ?_; rintro e w' ⟨rfl, rfl⟩)
  all_goals (go_ret; exact ⟨ret_bool (by rw [hp.out]; first | (symm; rw [decide_eq_true_iff]; omega) | (rw [decide_eq_decide]; omega)), rfl⟩)
def digZ (c : UInt8) : Int := if Uri.hexV c < 16 then ((Uri.hexV c).toNat : Int) else -1
theorem digit_tab (c : UInt8) : Lib.indexByte [48, 49, 50, 51, 52, 53, 54, 55, 56, 57, 65, 66, 67, 68, 69, 70] (if 97 ≤ (c.toNat : Int) ∧ (c.toNat : Int) ≤ 102 then ((c.toNat : Int) - 32).toNat.toUInt8 else c) = digZ c := by
  have key : ∀ i : Fin 256, Lib.indexByte [48, 49, 50, 51, 52, 53, 54, 55, 56, 57, 65, 66, 67, 68, 69, 70] (if 97 ≤ ((⟨⟨i⟩⟩ : UInt8).toNat : Int) ∧ ((⟨⟨i⟩⟩ : UInt8).toNat : Int) ≤ 102 then (((⟨⟨i⟩⟩ : UInt8).toNat : Int) - 32).toNat.toUInt8 else ⟨⟨i⟩⟩) = digZ ⟨⟨i⟩⟩ := by decide +kernel
  exact key c.toBitVec.toFin
set_option maxHeartbeats 1000000 in
theorem uri_digit (c : UInt8) (w : World) :
    Calls Tryz.prog 145 #[.int .u8 (c.toNat : Int)] w fun e w' => e = .returned (.int .i64 (digZ c)) ∧ w = w' := by
  have hp := Lib.hid (digit_tab c)
  go_enter Tryz.func145, Tryz.ntmps145
  go_wp2_with (go_at_call 81; refine (Tryz.strings_IndexByte _ _ _).mono ?_; rintro e w' ⟨rfl, rfl⟩)
  all_goals (go_ret; refine ⟨?_, rfl⟩; rw [← hp.out]; first | (rw [if_pos ⟨by omega, by omega⟩]; rfl) | (rw [if_neg (by omega)]; simp))
theorem idx_cut (c : UInt8) (l : List UInt8) : (Lib.indexByte l c = -1 ∧ (∀ x ∈ l, x ≠ c)) ∨ ∃ h t, l = h ++ c :: t ∧ (∀ x ∈ h, x ≠ c) ∧ Lib.indexByte l c = h.length := by
  induction l with
  | nil => exact .inl ⟨rfl, by simp⟩
  | cons x l ih =>
    by_cases hx : x = c
    · exact .inr ⟨[], l, by simp [hx], by simp, by rw [Lib.indexByte]; simp [hx]⟩
    · have hx' : (x == c) = false := by simpa using hx
      rcases ih with ⟨h1, h2⟩ | ⟨h, t, h1, h2, h3⟩
      · exact .inl ⟨by simp [Lib.indexByte, hx', h1], fun y hy => (List.mem_cons.1 hy).elim (fun e => e ▸ hx) (h2 y)⟩
      · refine .inr ⟨x :: h, t, by simp [h1], fun y hy => (List.mem_cons.1 hy).elim (fun e => e ▸ hx) (h2 y), ?_⟩
        have : ((Lib.indexByte l c == -1) = false) := by rw [h3]; simp <;> omega
        simp [Lib.indexByte, hx', this, h3]
abbrev str (l : List UInt8) : Value := .string ⟨l.toArray⟩
theorem ext_list (l : List UInt8) (a b : Nat) : (⟨l.toArray⟩ : ByteArray).extract a b = ⟨((l.drop a).take (b - a)).toArray⟩ := Lib.extract_eq _ a b
set_option maxHeartbeats 1000000 in
theorem cut_lite (l : List UInt8) (c : UInt8) (w : World) (hl : l.length ≤ 1000000000) :
    Calls Tryz.prog 44 #[str l, .string ⟨#[c]⟩] w fun e w' => e = .returned (.tuple #[str (Uri.cut1 c l).1, str (Uri.cut1 c l).2.1, .bool (Uri.cut1 c l).2.2]) ∧ ∃ n, w' = w.drewN n := by
  rcases idx_cut c l with ⟨h1, h2⟩ | ⟨h, t, rfl, h2, h3⟩
  · have hc := Lib.hid (Uri.cut1_not c l h2)
    go_enter Tryz.func44, Tryz.ntmps44
    go_wp2_with (go_at_call 77; refine (Tryz.stringslite_Index_one _ _ _).mono ?_; rintro e w' ⟨rfl, rfl⟩; rw [show Lib.indexByte (⟨l.toArray⟩ : ByteArray).data.toList c = -1 from h1])
    go_ret3
    rw [hc.out]
    exact ⟨rfl, 0, rfl⟩
  · have hc := Lib.hid (Uri.cut1_at c h t h2)
    have H3 := Lib.hid h3
    clear h3
    obtain ⟨s, hs⟩ : ∃ s : ByteArray, s = ⟨(h ++ c :: t).toArray⟩ := ⟨_, rfl⟩
    have hsz : h.length + 1 ≤ s.size := by rw [hs]; show _ ≤ (h ++ c :: t).length; simp
    have hsm : s.size ≤ 1000000000 := by rw [hs]; exact hl
    have hi : Hid (Lib.indexByte s.data.toList c = h.length) := by rw [hs]; exact H3.out
    have e1 : Hid (s.extract 0 h.length = ⟨h.toArray⟩) := by show _ = _; rw [hs, ext_list]; simp
    have e2 : Hid (s.extract (h.length + 1) s.size = ⟨t.toArray⟩) := by
      show _ = _
      rw [hs, ext_list]
      congr 2
      rw [List.take_of_length_le (by simp [ByteArray.size]; omega)]
      simp
    show Calls _ _ #[.string ⟨(h ++ c :: t).toArray⟩, _] _ _
    rw [← hs]
    clear hs H3 hl
    rw [hc.out]
    generalize h.length = n at *
    go_enter Tryz.func44, Tryz.ntmps44
    go_wp2_with (go_at_call 77; refine (Tryz.stringslite_Index_one _ _ _).mono ?_; rintro e w' ⟨rfl, rfl⟩; rw [hi.out])
    have b1 : (n : Int) ≤ (s.size : Int) := by omega
    have b2 : (n : Int) + 1 ≤ (s.size : Int) := by omega
    go_quiet (fail)
    go_wp2
    go_ret3
    refine ⟨?_, nq, rfl⟩
    show Ending.returned (.tuple #[.string (s.extract 0 n), .string (s.extract (n + 1) s.size), .bool true]) = _
    rw [e1.out, e2.out]
theorem strings_cut (l : List UInt8) (c : UInt8) (w : World) (hl : l.length ≤ 1000000000) :
    Calls Tryz.prog 19 #[str l, .string ⟨#[c]⟩] w fun e w' => e = .returned (.tuple #[str (Uri.cut1 c l).1, str (Uri.cut1 c l).2.1, .bool (Uri.cut1 c l).2.2]) ∧ ∃ n, w' = w.drewN n := by
  go_enter Tryz.func19, Tryz.ntmps19
  go_wp2_with (go_at_call 44; refine (cut_lite _ _ _ hl).mono ?_; rintro e w' ⟨rfl, n, rfl⟩)
  go_ret3
  exact ⟨rfl, n, rfl⟩
def orZ : List Int → Int
  | [] => 0
  | a :: t => if a = 0 then orZ t else a
theorem orZ_drop (l : List Int) (k : Nat) (h : k < l.length) : orZ (l.drop k) = if l.getD k 0 = 0 then orZ (l.drop (k + 1)) else l.getD k 0 := by
  rw [List.drop_eq_getElem_cons h]; simp [orZ, List.getD_eq_getElem?_getD, List.getElem?_eq_getElem h]
set_option maxHeartbeats 1000000 in
theorem or_errno (l : List Int) (ad : Addr) (c : Nat) (w : World) (hl : l.length ≤ 1000000000) (hc : ∀ i, i < l.length → w.cell? (ad.add i) = some (.int .i64 (l.getD i 0))) :
    Calls Tryz.prog 36 #[.slice (some ad) l.length c] w fun e w' => e = .returned (.int .i64 (orZ l)) ∧ w = w' := by
  have hO := fun k h => Lib.hid (orZ_drop l k h)
  have hE : Hid (orZ (l.drop l.length) = 0) := by show _ = _; rw [List.drop_length]; rfl
  have h0 : Hid (orZ l = orZ (l.drop 0)) := rfl
  obtain ⟨n, hn⟩ : ∃ n, n = l.length := ⟨_, rfl⟩
  rw [← hn] at hl hc hO hE ⊢
  clear hn
  obtain ⟨f, hf⟩ : ∃ f : Nat → Int, ∀ i, l.getD i 0 = f i := ⟨_, fun _ => rfl⟩
  simp only [hf] at hc hO
  clear hf
  go_enter Tryz.func36, Tryz.ntmps36
  go_wp2
  go_loop [8] (fun i => ∃ k : Nat, k ≤ n ∧ i = .int .i64 k ∧ Hid (orZ l = orZ (l.drop k))) (fun i => n - (intOf i).toNat)
  case atStart => exact ⟨0, Nat.zero_le _, rfl, h0⟩
  case round =>
    obtain ⟨k, hk, rfl, hr⟩ := hrel
    by_cases hlt : k < n
    · have hck := hc k hlt
      have hok := hO k hlt
      clear hc hO
      by_cases hz : f k = 0
      · have hz1 : (f k != 0) = false := by simp [hz]
        have Hz := Lib.hid hz
        clear hz
        go_wp2
        go_round
        case rel => exact ⟨k + 1, by omega, by go_num, by show _ = _; rw [hr.out, hok.out, if_pos Hz.out]⟩
        case measure => simp [intOf]; omega
      · have hz1 : (f k != 0) = true := by simp [hz]
        have Hz := Lib.hid hz
        clear hz
        go_wp2
        go_ret
        exact ⟨by rw [hr.out, hok.out, if_neg Hz.out]; rfl, rfl⟩
    · have hkn : Hid (k = n) := by show _ = _; omega
      clear hc
      go_wp2
      go_ret
      exact ⟨by rw [hr.out, hkn.out, hE.out]; rfl, rfl⟩
end Go.Proofs.YtghcadbmjglidaaGreatDoor
end
section
set_option linter.unusedVariables false
namespace Go.Proofs.YtghcadbmjglidaaGreatDoor
open Go.RowKit
theorem bytes_at (w : World) (l : List UInt8) (j : Nat) (hj : j < l.length) :
    (Lib.bytesWorld w 5 ⟨l.toArray⟩).cell? ⟨w.heap.size, j, none⟩ = some (.int .u8 ((l.getD j 0).toNat : Int)) := by
  have := Lib.bytesWorld_cell w 5 ⟨l.toArray⟩ j (by show j < l.length; exact hj)
  simpa using this
theorem enc_snoc (s : Bool) (l : List UInt8) (c : UInt8) : Uri.enc s (l ++ [c]) = Uri.enc s l ++ Uri.enc1 s c := by simp [Uri.enc]
theorem enc1_le (s : Bool) (c : UInt8) : (Uri.enc1 s c).length ≤ 3 := by unfold Uri.enc1; split <;> simp
theorem enc_le (s : Bool) (l : List UInt8) : (Uri.enc s l).length ≤ 3 * l.length := by
  induction l with
  | nil => simp [Uri.enc]
  | cons c l ih =>
    have := enc1_le s c
    simp only [Uri.enc, List.flatMap_cons, List.length_append, List.length_cons] at ih ⊢
    omega
theorem take_snoc (l : List UInt8) (k : Nat) (h : k < l.length) : l.take (k + 1) = l.take k ++ [l.getD k 0] := by
  rw [List.take_succ_eq_append_getElem h]; simp [List.getD_eq_getElem?_getD, List.getElem?_eq_getElem h]
theorem hex_hi (c : UInt8) : (⟨#[48, 49, 50, 51, 52, 53, 54, 55, 56, 57, 65, 66, 67, 68, 69, 70]⟩ : ByteArray).extract ((c.toNat : Int) / 16).toNat ((c.toNat : Int) / 16 + 1).toNat = ⟨[Uri.hexU (c >>> 4)].toArray⟩ := by
  rw [Lib.extract_eq]
  congr 2
  have key : ∀ i : Fin 256, (([48, 49, 50, 51, 52, 53, 54, 55, 56, 57, 65, 66, 67, 68, 69, 70] : List UInt8).drop (((⟨⟨i⟩⟩ : UInt8).toNat : Int) / 16).toNat).take ((((⟨⟨i⟩⟩ : UInt8).toNat : Int) / 16 + 1).toNat - (((⟨⟨i⟩⟩ : UInt8).toNat : Int) / 16).toNat) = [Uri.hexU ((⟨⟨i⟩⟩ : UInt8) >>> 4)] := by decide +kernel
  exact key c.toBitVec.toFin
theorem hex_lo (c : UInt8) : (⟨#[48, 49, 50, 51, 52, 53, 54, 55, 56, 57, 65, 66, 67, 68, 69, 70]⟩ : ByteArray).extract ((c.toNat : Int) % 16).toNat ((c.toNat : Int) % 16 + 1).toNat = ⟨[Uri.hexU (c &&& 15)].toArray⟩ := by
  rw [Lib.extract_eq]
  congr 2
  have key : ∀ i : Fin 256, (([48, 49, 50, 51, 52, 53, 54, 55, 56, 57, 65, 66, 67, 68, 69, 70] : List UInt8).drop (((⟨⟨i⟩⟩ : UInt8).toNat : Int) % 16).toNat).take ((((⟨⟨i⟩⟩ : UInt8).toNat : Int) % 16 + 1).toNat - (((⟨⟨i⟩⟩ : UInt8).toNat : Int) % 16).toNat) = [Uri.hexU ((⟨⟨i⟩⟩ : UInt8) &&& 15)] := by decide +kernel
  exact key c.toBitVec.toFin
theorem and15 (c : UInt8) : bits BinOp.and IntKind.u8 (c.toNat : Int) 15 = (c.toNat : Int) % 16 := by
  have key : ∀ i : Fin 256, bits BinOp.and IntKind.u8 ((⟨⟨i⟩⟩ : UInt8).toNat : Int) 15 = ((⟨⟨i⟩⟩ : UInt8).toNat : Int) % 16 := by decide +kernel
  exact key c.toBitVec.toFin
theorem enc1_yes (s : Bool) (c : UInt8) (h : (Uri.plain c || (s && (c == 47))) = true) : Uri.enc1 s c = [c] := by simp [Uri.enc1, h]
theorem enc1_no (s : Bool) (c : UInt8) (h : (Uri.plain c || (s && (c == 47))) = false) : Uri.enc1 s c = [37, Uri.hexU (c >>> 4), Uri.hexU (c &&& 15)] := by simp [Uri.enc1, h]
set_option maxRecDepth 100000 in
set_option maxHeartbeats 4000000 in
theorem uri_Encode (l : List UInt8) (s : Bool) (w : World) (hl : l.length ≤ 1000000000) :
    Calls Tryz.prog 104 #[str l, .bool s] w fun e w' => e = .returned (str (Uri.enc s l)) ∧ Below w.heap.size w w' := by
  have hT : ∀ k, k < l.length → Hid (l.take (k + 1) = l.take k ++ [l.getD k 0]) := take_snoc l
  have hE : Hid (Uri.enc s (l.take l.length) = Uri.enc s l) := by show _ = _; rw [List.take_length]
  have hle : ∀ k, (Uri.enc s (l.take k)).length ≤ 3 * l.length := fun k => by
    have := enc_le s (l.take k); have := List.length_take_le k l; have : (l.take k).length ≤ l.length := List.length_take_le' k l; omega
  have hB := fun W j hj => bytes_at W l j hj
  have hconv := fun W => Lib.run_convert_string_bytes (P := Tryz.prog) W 9 37 5 ⟨l.toArray⟩ Tryz.underlying9 Tryz.underlying37 Tryz.underlying5
  have hsz : (⟨l.toArray⟩ : ByteArray).size = l.length := rfl
  rw [hsz] at hconv
  go_enter Tryz.func104, Tryz.ntmps104
  go_wp2
  obtain ⟨w1, hw1⟩ : ∃ w1, w1 = w.alloc (.cells #[.pointer none, .slice none 0 0] 88) := ⟨_, rfl⟩
  have hs1 : w1.heap.size = w.heap.size + 1 := by rw [hw1]; simp
  have hf1 : Fr (fun _ => False) w w1 := by rw [hw1]; exact (Fr.refl _ _).alloc _
  have hbk1 : w1.heap[w.heap.size]? = some (.cells #[.pointer none, .slice none 0 0] 88) := by rw [hw1]; exact heap_alloc_new w _
  rw [← hw1]
  clear hw1
  obtain ⟨W, hW⟩ : ∃ W, W = Lib.bytesWorld w1 5 ⟨l.toArray⟩ := ⟨_, rfl⟩
  have hs2 : W.heap.size = w.heap.size + 2 := by rw [hW, Lib.bytesWorld_size, hs1]
  have hf2 : Fr (fun _ => False) w1 W := by rw [hW]; exact (Fr.refl _ _).bytesWorld _ _
  have hbk : W.heap[w.heap.size]? = some (.cells #[.pointer none, .slice none 0 0] 88) := hf2.heap hbk1 id
  have hcells : ∀ j, j < l.length → W.cell? ⟨w.heap.size + 1, j, none⟩ = some (.int .u8 ((l.getD j 0).toNat : Int)) := fun j hj => by have := hB w1 j hj; rw [hs1] at this; rw [hW]; exact this
  rw [← hW]
  have hfW : Fr (fun _ => False) w W := hf1.trans hf2
  have hbld : Bld w.heap.size (w.heap.size + 2) [] W := Bld.fresh hbk (by omega)
  generalize grownCap _ _ _ _ = cap
  clear hW hB hconv hbk hbk1 hf1 hf2 hs1 w1
  generalize hb0 : w.heap.size = b at *
  have hbw : Hid (w.heap.size = b) := hb0
  generalize hn : l.length = n at *
  clear hb0 hn hsz
  go_loopw [11] (fun i wr => ∃ k : Nat, k ≤ n ∧ i = .int .i64 k ∧ Bld b (b + 2) (Uri.enc s (l.take k)) wr ∧ Fr (BldM b (b + 2)) W wr) (fun i _ => n - (intOf i).toNat)
  case atStart => exact ⟨0, Nat.zero_le _, rfl, hbld, Fr.refl _ _⟩
  case round =>
    obtain ⟨k, hk, rfl, hbl, hfr⟩ := hrel
    by_cases hlt : k < n
    · have hck : wr.cell? ⟨b + 1, k, none⟩ = some (.int .u8 ((l.getD k 0).toNat : Int)) := hfr.cell (hcells k hlt) (by simp)
      have hTk := hT k hlt
      clear hcells hT hbld
      generalize l.getD k 0 = c at *
      have c0 := c.toNat_lt
      have hyes := fun h => Lib.hid (enc1_yes s c h)
      have hno := fun h => Lib.hid (enc1_no s c h)
      have hsnoc : Hid (Uri.enc s (l.take (k + 1)) = Uri.enc s (l.take k) ++ Uri.enc1 s c) := by show _ = _; rw [hTk.out, enc_snoc]
      have hlen := hle k
      have hbs : b + 2 ≤ wr.heap.size := by have := hfr.size; omega
      clear hTk hle
      generalize Uri.enc s (l.take k) = acc at *
      have hpc : ∃ p, Uri.plain c = p := ⟨_, rfl⟩
      obtain ⟨p, hpc⟩ := hpc
      have hb47 : ∃ q, ((c.toNat : Int) == 47) = q ∧ (c == 47) = q := ⟨_, rfl, by rw [Bool.eq_iff_iff]; simp [← UInt8.toNat_inj]; omega⟩
      obtain ⟨q, hq, hq2⟩ := hb47
      have HQ := Lib.hid hq2
      have HP := Lib.hid hpc
      clear hq2
      have z1 : IntKind.u8.wrap ((c.toNat : Int) / 16 + 1) = (c.toNat : Int) / 16 + 1 := IntWalk.u8_in _ (by omega)
      have z4 : IntKind.u8.wrap ((c.toNat : Int) % 16 + 1) = (c.toNat : Int) % 16 + 1 := IntWalk.u8_in _ (by omega)
      have s1 : ∀ W, (Instr.slice 9 (.string ⟨#[48, 49, 50, 51, 52, 53, 54, 55, 56, 57, 65, 66, 67, 68, 69, 70]⟩) (some (.int .u8 ((c.toNat : Int) / 16))) (some (.int .u8 ((c.toNat : Int) / 16 + 1))) none).run Tryz.prog W = .ok (.string ⟨[Uri.hexU (c >>> 4)].toArray⟩) W := fun W => by
        rw [run_slice_string W _ _ _ _ _ _ Tryz.underlying9 (by omega) (by omega) (by show _ ≤ (16 : Int); omega), hex_hi]
      have s2 : ∀ W, (Instr.slice 9 (.string ⟨#[48, 49, 50, 51, 52, 53, 54, 55, 56, 57, 65, 66, 67, 68, 69, 70]⟩) (some (.int .u8 ((c.toNat : Int) % 16))) (some (.int .u8 ((c.toNat : Int) % 16 + 1))) none).run Tryz.prog W = .ok (.string ⟨[Uri.hexU (c &&& 15)].toArray⟩) W := fun W => by
        rw [run_slice_string W _ _ _ _ _ _ Tryz.underlying9 (by omega) (by omega) (by show _ ≤ (16 : Int); omega), hex_lo]
      have s3 : ∀ W, (Op.stringOp .add ⟨#[37]⟩ ⟨[Uri.hexU (c >>> 4)].toArray⟩).run Tryz.prog W = .ok (.string ⟨[37, Uri.hexU (c >>> 4)].toArray⟩) W := fun W => run_string_add_lists W [37] [_] (by simp) (by simp)
      have s4 : ∀ W, (Op.stringOp .add ⟨[37, Uri.hexU (c >>> 4)].toArray⟩ ⟨[Uri.hexU (c &&& 15)].toArray⟩).run Tryz.prog W = .ok (.string ⟨[37, Uri.hexU (c >>> 4), Uri.hexU (c &&& 15)].toArray⟩) W := fun W => run_string_add_lists W [37, _] [_] (by simp) (by simp)
      have h15 := and15 c
      generalize Uri.hexU (c >>> 4) = xh at *
      generalize Uri.hexU (c &&& 15) = xl at *
      cases s <;> cases p <;> cases q
      all_goals go_wp2_with (first | (go_at_call 148; refine (uri_plain c _).mono ?_; rintro e w' ⟨rfl, rfl⟩) | (go_at_call 82; refine (WriteByte_ok b (b + 2) acc c _ hbl (by omega) hbs).mono ?_; rintro e w2 ⟨rfl, hb2, hf2⟩))
      all_goals first
        | (go_roundw
           case rel => exact ⟨k + 1, by omega, by go_num, by rw [hsnoc.out, (hyes (by simp [HP.out, HQ.out])).out]; exact hb2, hfr.trans hf2⟩
           case measure => simp [intOf]; omega)
        | (go_still_tail 14, (by kernel_rfl)
           have hbl' : Bld b (b + 2) acc wr.drew := hbl
           have hbs' : b + 2 ≤ wr.drew.heap.size := hbs
           have hfr' : Fr (BldM b (b + 2)) W wr.drew := hfr.drew
           change wpList _ _ _ _ _ wr.drew
           clear hbl hbs hfr hck s1 s2 s3 s4 h15 z1 z4
           generalize wr.drew = wd at *
           go_wp2_with (go_at_call 53; refine (WriteString_ok b (b + 2) acc [37, xh, xl] _ hbl' (by simp; omega) hbs').mono ?_; rintro e w2 ⟨⟨_, rfl⟩, hb2, hf2⟩)
           go_roundw
           case rel => exact ⟨k + 1, by omega, by go_num, by rw [hsnoc.out, (hno (by simp [HP.out, HQ.out])).out]; exact hb2, hfr'.trans hf2⟩
           case measure => simp [intOf]; omega)
    · have hkn : k = n := by omega
      have hEk : Hid (Uri.enc s (l.take k) = Uri.enc s l) := by rw [hkn]; exact hE
      clear hcells hT hbld hkn
      have hbs : b ≤ wr.heap.size := by have := hfr.size; omega
      generalize Uri.enc s (l.take k) = acc at *
      go_wp2_with (go_at_call 54; refine (String_ok b (b + 2) acc _ hbl hbs).mono ?_; rintro e w2 ⟨rfl, hb2⟩)
      go_ret
      refine ⟨by rw [← hEk.out]; rfl, ?_⟩
      have h1 : Below b w W := hfW.below (by rw [hbw.out]; exact Nat.le_refl _) fun _ _ => id
      have h2 : Below b W wr := hfr.below (by omega) fun k hk => by simp; omega
      rw [hbw.out]
      exact (h1.trans h2).trans hb2
end Go.Proofs.YtghcadbmjglidaaGreatDoor
end
section
set_option linter.unusedVariables false
namespace Go.Proofs.YtghcadbmjglidaaGreatDoor
open Go.RowKit
theorem sym_post {P : Program} {f : FuncId} {args : Array Value} {w : World} {E : Ending} (h : Calls P f args w fun e w' => e = E ∧ w = w') : Calls P f args w fun e w' => e = E ∧ w' = w :=
  h.mono fun _ _ ⟨a, b⟩ => ⟨a, b.symm⟩
theorem Fr.undrew {M : Nat → Prop} {w w' : World} {n : Nat} (h : Fr M (w.drewN n) w') : Fr M w w' := ⟨h.os, h.tape, h.output, h.size, h.keep⟩
theorem Bld.drewN {b base : Nat} {l : List UInt8} {w : World} (h : Bld b base l w) (n : Nat) : Bld b base l (w.drewN n) := h
def strLen : Value → Nat | .string s => s.size | _ => 0
def decR (l : List UInt8) : List UInt8 × Int := match Uri.dec l with | some d => (d, 0) | none => ([], 13)
theorem dec_none_cut (h t : List UInt8) (hh : ∀ x ∈ h, x ≠ 37) : Uri.dec (h ++ 37 :: t) = (Uri.dec (37 :: t)).map (h ++ ·) := Uri.dec_head h _ hh
theorem dec_all (m : List UInt8) (hm : ∀ x ∈ m, x ≠ 37) : Uri.dec m = some m := by
  have := Uri.dec_head m [] hm
  simpa [Uri.dec_nil] using this
theorem dec_bad (a b : UInt8) (r : List UInt8) (h : ¬ (0 ≤ digZ a ∧ 0 ≤ digZ b)) : Uri.dec (37 :: a :: b :: r) = none := by
  rw [Uri.dec_pct, if_neg]
  unfold digZ at h
  simp only [Bool.and_eq_true, decide_eq_true_eq]
  rintro ⟨h1, h2⟩
  rw [if_pos h1, if_pos h2] at h
  omega
theorem dec_good (a b : UInt8) (r : List UInt8) (h : 0 ≤ digZ a ∧ 0 ≤ digZ b) : Uri.dec (37 :: a :: b :: r) = (Uri.dec r).map ((Uri.hexV a * 16 + Uri.hexV b) :: ·) := by
  rw [Uri.dec_pct, if_pos]
  unfold digZ at h
  simp only [Bool.and_eq_true, decide_eq_true_eq]
  constructor
  · by_cases h1 : Uri.hexV a < 16
    · exact h1
    · rw [if_neg h1] at h; omega
  · by_cases h1 : Uri.hexV b < 16
    · exact h1
    · rw [if_neg h1] at h; omega
theorem digZ_lt (x : UInt8) : digZ x < 16 := by
  unfold digZ; split
  · rename_i h; have := UInt8.lt_iff_toNat_lt.1 h; simp at this; omega
  · omega
theorem or_tab : ∀ a b : Fin 16, IntKind.u8.wrap (bits BinOp.or IntKind.i64 (IntKind.i64.wrap ((a.val : Int) * 16)) (b.val : Int)) = (a.val : Int) * 16 + b.val := by decide +kernel
theorem digZ_or (x y : UInt8) (A B : Nat) (hA : digZ x = A) (hB : digZ y = B) :
    IntKind.u8.wrap (bits BinOp.or IntKind.i64 (IntKind.i64.wrap ((A : Int) * 16)) (B : Int)) = ((Uri.hexV x * 16 + Uri.hexV y).toNat : Int) := by
  have lx := digZ_lt x
  have ly := digZ_lt y
  rw [hA] at lx
  rw [hB] at ly
  have := or_tab ⟨A, by omega⟩ ⟨B, by omega⟩
  simp only at this
  rw [this]
  unfold digZ at hA hB
  split at hA <;> split at hB <;> try omega
  rw [UInt8.toNat_add, UInt8.toNat_mul]
  simp
  omega
theorem dec_le (l d : List UInt8) (h : Uri.dec l = some d) : d.length ≤ l.length := by
  induction hn : l.length using Nat.strongRecOn generalizing l d with
  | _ n ih =>
    match l with
    | [] => rw [Uri.dec_nil] at h; cases h; simp
    | c :: t =>
      by_cases hc : c = 37
      · subst hc
        match t with
        | [] => rw [Uri.dec_short _ (by simp)] at h; cases h
        | [_] => rw [Uri.dec_short _ (by simp)] at h; cases h
        | a :: b :: r =>
          rw [Uri.dec_pct] at h
          split at h
          · obtain ⟨x, hx, rfl⟩ := Option.map_eq_some_iff.1 h
            have := ih r.length (by simp at hn; omega) r x hx rfl
            simp at hn ⊢; omega
          · cases h
      · rw [Uri.dec_plain hc] at h
        obtain ⟨x, hx, rfl⟩ := Option.map_eq_some_iff.1 h
        have := ih t.length (by simp at hn; omega) t x hx rfl
        simp at hn ⊢; omega
set_option maxRecDepth 100000 in
set_option maxHeartbeats 4000000 in
theorem uri_Decode (l : List UInt8) (w : World) (hl : l.length ≤ 1000000000) :
    Calls Tryz.prog 102 #[str l] w fun e w' => e = .returned (.tuple #[str (decR l).1, .int .i64 (decR l).2]) ∧ Below w.heap.size w w' := by
  have hstart : Hid (Uri.dec l = (Uri.dec l).map ([] ++ ·)) := by show _ = _; simp
  go_enter Tryz.func102, Tryz.ntmps102
  go_wp2
  obtain ⟨W, hW⟩ : ∃ W, W = w.alloc (.cells #[.pointer none, .slice none 0 0] 88) := ⟨_, rfl⟩
  have hs2 : W.heap.size = w.heap.size + 1 := by rw [hW]; simp
  have hfW : Fr (fun _ => False) w W := by rw [hW]; exact (Fr.refl _ _).alloc _
  have hbk : W.heap[w.heap.size]? = some (.cells #[.pointer none, .slice none 0 0] 88) := by rw [hW]; exact heap_alloc_new w _
  rw [← hW]
  have hbld : Bld w.heap.size (w.heap.size + 1) [] W := Bld.fresh hbk (by omega)
  clear hW hbk
  generalize hb0 : w.heap.size = b at *
  have hbw : Hid (w.heap.size = b) := hb0
  clear hb0
  go_loopw [0] (fun v wr => ∃ m acc : List UInt8, v = str m ∧ acc.length + m.length ≤ 1000000000 ∧ Hid (Uri.dec l = (Uri.dec m).map (acc ++ ·)) ∧ Bld b (b + 1) acc wr ∧ Fr (BldM b (b + 1)) W wr) (fun v _ => strLen v)
  case atStart => exact ⟨l, [], rfl, by simpa using hl, hstart, hbld, Fr.refl _ _⟩
  case round =>
    obtain ⟨m, acc, rfl, hml, hdec, hbl, hfr⟩ := hrel
    clear hbld hstart hl
    have hbs : b + 1 ≤ wr.heap.size := by have := hfr.size; omega
    have hbt : ∀ w2, Below b wr w2 → Below w.heap.size w w2 := fun w2 hb2 => by
      rw [hbw.out]
      have h1 : Below b w W := hfW.below (by rw [hbw.out]; exact Nat.le_refl _) fun _ _ => id
      have h2 : Below b W wr := hfr.below (by omega) fun k hk => by simp; omega
      exact (h1.trans h2).trans hb2
    rcases Uri.cut1_cases 37 m with ⟨hc, hno⟩ | ⟨h, t, rfl, hh, hc⟩
    · have hfin : Hid (decR l = (acc ++ m, 0)) := by show _ = _; unfold decR; rw [hdec.out, dec_all m hno]; rfl
      have HC := Lib.hid hc
      clear hc hdec
      go_wp2_with (first
        | (go_at_call 19; refine (strings_cut m 37 _ (by omega)).mono ?_; rintro e w' ⟨rfl, nd, rfl⟩; rw [HC.out])
        | (go_at_call 53; refine (WriteString_ok b (b + 1) acc m _ (hbl.drewN _) (by omega) hbs).mono ?_; rintro e w2 ⟨⟨_, rfl⟩, hb2, hf2⟩; replace hf2 := hf2.undrew)
        | (go_at_call 54; refine (String_ok b (b + 1) (acc ++ m) _ hb2 (by have := hf2.size; omega)).mono ?_; rintro e w3 ⟨rfl, hb3⟩))
      go_ret2
      rw [hfin.out]
      refine ⟨rfl, hbt _ ?_⟩
      exact ((Below.refl b wr).trans (hf2.below (B := b) (by omega) fun k hk => by simp; omega)).trans hb3
    · have HC := Lib.hid hc
      have hlen : h.length + 1 + t.length = (h ++ 37 :: t).length := by simp; omega
      clear hc
      by_cases h2 : t.length < 2
      · have hfin : Hid (decR l = ([], 13)) := by show _ = _; unfold decR; rw [hdec.out, dec_none_cut h t hh, Uri.dec_short t h2]; rfl
        clear hdec
        go_wp2_with (first
          | (go_at_call 19; refine (strings_cut _ 37 _ (by omega)).mono ?_; rintro e w' ⟨rfl, nd, rfl⟩; rw [HC.out])
          | (go_at_call 53; refine (WriteString_ok b (b + 1) acc h _ (hbl.drewN _) (by omega) hbs).mono ?_; rintro e w2 ⟨⟨_, rfl⟩, hb2, hf2⟩; replace hf2 := hf2.undrew))
        go_ret2
        rw [hfin.out]
        exact ⟨rfl, hbt _ (hf2.below (B := b) (by omega) fun k hk => by simp; omega)⟩
      · obtain ⟨x, y, r, rfl⟩ : ∃ x y r, t = x :: y :: r := by
          match t, h2 with
          | x :: y :: r, _ => exact ⟨x, y, r, rfl⟩
          | [], h2 => simp at h2
          | [_], h2 => simp at h2
        obtain ⟨S, hS⟩ : ∃ S : ByteArray, S = ⟨(x :: y :: r).toArray⟩ := ⟨_, rfl⟩
        have hSz : (2 : Int) ≤ (S.size : Int) := by rw [hS]; show (2 : Int) ≤ ((x :: y :: r).length : Int); simp; omega
        have i0 : ∀ W, (Instr.index 9 (.string S) (.int .i64 0)).run Tryz.prog W = .ok (.int .u8 (x.toNat : Int)) W := fun W => by
          rw [run_index_string W _ _ _ _ Tryz.underlying9, dif_pos ⟨by omega, by omega⟩]; subst hS; rfl
        have i1 : ∀ W, (Instr.index 9 (.string S) (.int .i64 1)).run Tryz.prog W = .ok (.int .u8 (y.toNat : Int)) W := fun W => by
          rw [run_index_string W _ _ _ _ Tryz.underlying9, dif_pos ⟨by omega, by omega⟩]; subst hS; rfl
        have i2 : Hid (S.extract 2 S.size = ⟨r.toArray⟩) := by
          show _ = _
          rw [hS, ext_list]; congr 2; rw [List.take_of_length_le (by simp [ByteArray.size])]; rfl
        have HCS : Hid ((str (Uri.cut1 37 (h ++ 37 :: x :: y :: r)).2.1) = .string S) := by show _ = _; rw [HC.out, hS]
        have hsml : S.size ≤ 1000000000 := by rw [hS]; show (x :: y :: r).length ≤ _; simp at hml ⊢; omega
        clear hS
        by_cases hg : 0 ≤ digZ x ∧ 0 ≤ digZ y
        · have hgo := dec_good x y r hg
          obtain ⟨A, hA⟩ : ∃ A : Nat, digZ x = A := ⟨(digZ x).toNat, by omega⟩
          obtain ⟨B, hB⟩ : ∃ B : Nat, digZ y = B := ⟨(digZ y).toNat, by omega⟩
          have hlx := digZ_lt x
          have hly := digZ_lt y
          rw [hA] at hg hlx
          rw [hB] at hg hly
          have hOr := digZ_or x y A B hA hB
          generalize Uri.hexV x * 16 + Uri.hexV y = z at *
          have HA := Lib.hid hA
          have HB := Lib.hid hB
          have HG := Lib.hid hgo
          clear hgo hA hB
          go_wp2_with (first
            | (go_at_call 19; refine (strings_cut _ 37 _ (by omega)).mono ?_; rintro e w' ⟨rfl, nd, rfl⟩; rw [HCS.out, HC.out])
            | (go_at_call 53; refine (WriteString_ok b (b + 1) acc h _ (hbl.drewN _) (by omega) hbs).mono ?_; rintro e w2 ⟨⟨_, rfl⟩, hb2, hf2⟩; replace hf2 := hf2.undrew)
            | (go_at_call 145; refine (uri_digit _ _).mono ?_; (first | rw [HA.out] | rw [HB.out]); rintro e w' ⟨rfl, rfl⟩))
          refine wp_region_still_tail 9 (by kernel_rfl) (by kernel_rfl) ?_
          simp only [List.take_succ_cons, List.take_zero, List.drop_succ_cons, List.drop_zero]
          repeat still_step
          still_call (HA.out ▸ sym_post (uri_digit x _))
          repeat still_step
          still_call (HB.out ▸ sym_post (uri_digit y _))
          repeat still_step
          refine wpStill_nil ?_
          have hb2' : Bld b (b + 1) (acc ++ h) w2.drew := hb2
          have hfr' : Fr (BldM b (b + 1)) W w2.drew := (hfr.trans hf2).drew
          have hbs' : b + 1 ≤ w2.drew.heap.size := by have := hf2.size; show _ ≤ w2.heap.size; omega
          change wpList _ _ _ _ _ w2.drew
          clear hb2 hf2 hfr hbl i0 i1 hOr hbs
          generalize w2.drew = wd at *
          go_wp2_with (go_at_call 82; refine (WriteByte_ok b (b + 1) (acc ++ h) z _ hb2' (by simp at hml ⊢; omega) hbs').mono ?_; rintro e w3 ⟨rfl, hb3, hf3⟩)
          go_roundw
          case rel =>
            refine ⟨r, acc ++ h ++ [z], by show Value.string _ = _; rw [i2.out], by simp at hml ⊢; omega, ?_, hb3, hfr'.trans hf3⟩
            show _ = _
            rw [hdec.out, dec_none_cut h _ hh, HG.out]
            simp [Option.map_map, Function.comp_def]
          case measure =>
            show (S.extract 2 S.size).size < (⟨(h ++ 37 :: x :: y :: r).toArray⟩ : ByteArray).size
            rw [i2.out]; show r.length < (h ++ 37 :: x :: y :: r).length; simp; omega
        · have hfin : Hid (decR l = ([], 13)) := by show _ = _; unfold decR; rw [hdec.out, dec_none_cut h _ hh, dec_bad x y r hg]; rfl
          clear hdec
          go_wp2_with (first
            | (go_at_call 19; refine (strings_cut _ 37 _ (by omega)).mono ?_; rintro e w' ⟨rfl, nd, rfl⟩; rw [HCS.out, HC.out])
            | (go_at_call 53; refine (WriteString_ok b (b + 1) acc h _ (hbl.drewN _) (by omega) hbs).mono ?_; rintro e w2 ⟨⟨_, rfl⟩, hb2, hf2⟩; replace hf2 := hf2.undrew)
            | (go_at_call 145; refine (uri_digit _ _).mono ?_; rintro e w' ⟨rfl, rfl⟩))
          all_goals
            go_ret2
            rw [hfin.out]
            exact ⟨rfl, hbt _ (hf2.below (B := b) (by omega) fun k hk => by simp; omega)⟩
theorem cut1_le (c : UInt8) (l : List UInt8) : (Uri.cut1 c l).1.length + (Uri.cut1 c l).2.1.length ≤ l.length := by
  rcases Uri.cut1_cases c l with ⟨h, _⟩ | ⟨a, b, rfl, _, h⟩ <;> rw [h] <;> simp
end Go.Proofs.YtghcadbmjglidaaGreatDoor
end
section
set_option linter.unusedVariables false
namespace Go.Proofs.YtghcadbmjglidaaGreatDoor
open Go.RowKit
theorem all_take (p : UInt8 → Bool) (l : List UInt8) (k : Nat) (h : k < l.length) : (l.take (k + 1)).all p = ((l.take k).all p && p (l.getD k 0)) := by
  rw [take_snoc l k h, List.all_append]; simp
theorem all_no (p : UInt8 → Bool) (l : List UInt8) (k : Nat) (h : k < l.length) (hp : p (l.getD k 0) = false) : l.all p = false := by
  rw [List.getD_eq_getElem?_getD, List.getElem?_eq_getElem h] at hp
  cases hq : l.all p with
  | false => rfl
  | true => rw [List.all_eq_true] at hq; have h9 := hq _ (List.getElem_mem h); rw [show (some l[k]).getD 0 = l[k] from rfl, h9] at hp; cases hp
def onlyB (l o : List UInt8) (m : Int) : Bool := l.all (fun c => decide (0 ≤ Lib.indexByte o c)) && (!l.isEmpty && decide ((l.length : Int) ≤ m))
set_option maxRecDepth 100000 in
set_option maxHeartbeats 4000000 in
theorem only_any (l o : List UInt8) (m : Int) (w : World) (hl : l.length ≤ 1000000000) :
    Calls Tryz.prog 46 #[str l, str o, .int .i64 m] w fun e w' => e = .returned (.bool (onlyB l o m)) ∧ Below w.heap.size w w' := by
  have hA : ∀ k, k < l.length → Hid ((l.take (k + 1)).all (fun c => decide (0 ≤ Lib.indexByte o c)) = ((l.take k).all (fun c => decide (0 ≤ Lib.indexByte o c)) && decide (0 ≤ Lib.indexByte o (l.getD k 0)))) := fun k h => all_take _ l k h
  have hN : ∀ k, k < l.length → decide (0 ≤ Lib.indexByte o (l.getD k 0)) = false → Hid (onlyB l o m = false) := fun k h hp => by
    show _ = _
    unfold onlyB
    rw [all_no (fun c => decide (0 ≤ Lib.indexByte o c)) l k h hp]; rfl
  have hY : (l.take l.length).all (fun c => decide (0 ≤ Lib.indexByte o c)) = true → Hid (onlyB l o m = (!l.isEmpty && decide ((l.length : Int) ≤ m))) := fun h => by
    show _ = _
    unfold onlyB
    rw [List.take_length] at h
    rw [h]; rfl
  have hB := fun W j hj => bytes_at W l j hj
  have hconv := fun W => Lib.run_convert_string_bytes (P := Tryz.prog) W 9 37 5 ⟨l.toArray⟩ Tryz.underlying9 Tryz.underlying37 Tryz.underlying5
  have hsz : (⟨l.toArray⟩ : ByteArray).size = l.length := rfl
  rw [hsz] at hconv
  have hix := fun (c : UInt8) (W : World) => Tryz.strings_IndexByte ⟨o.toArray⟩ (c.toNat : Int) W
  have hcc : ∀ c : UInt8, ((c.toNat : Int)).toNat.toUInt8 = c := fun c => by rw [Int.toNat_natCast]; exact UInt8.ofNat_toNat
  have h0 : Hid ((l.take 0).all (fun c => decide (0 ≤ Lib.indexByte o c)) = true) := rfl
  simp only [hcc] at hix
  clear hcc
  obtain ⟨S, hS⟩ : ∃ S : ByteArray, S = ⟨l.toArray⟩ := ⟨_, rfl⟩
  have hSl : S.size = l.length := by rw [hS]; rfl
  have hE : Hid (S.toList = l) := by show _ = _; rw [hS]; exact ByteArray.toList_eq _
  show Calls _ _ #[.string ⟨l.toArray⟩, _, _] _ _
  rw [← hS] at hconv hB ⊢
  clear hS
  go_enter Tryz.func46, Tryz.ntmps46
  go_wp2
  obtain ⟨W, hW⟩ : ∃ W, W = Lib.bytesWorld w 5 S := ⟨_, rfl⟩
  have hf : Fr (fun _ => False) w W := by rw [hW]; exact (Fr.refl _ _).bytesWorld _ _
  have hcells : ∀ j, j < l.length → W.cell? ⟨w.heap.size, j, none⟩ = some (.int .u8 ((l.getD j 0).toNat : Int)) := fun j hj => by have := hB w j hj; rw [hW]; exact this
  rw [← hW]
  generalize grownCap _ _ _ _ = cap
  clear hW hB hconv
  have HF := Lib.hid hf
  clear hf
  generalize hn : l.length = n at *
  clear hn hsz
  go_loopw [12] (fun i wr => ∃ k : Nat, k ≤ n ∧ i = .int .i64 k ∧ Hid ((l.take k).all (fun c => decide (0 ≤ Lib.indexByte o c)) = true) ∧ Hid (Fr (fun _ => False) W wr)) (fun i _ => n - (intOf i).toNat)
  case atStart => exact ⟨0, Nat.zero_le _, rfl, h0, Lib.hid (Fr.refl _ _)⟩
  case round =>
    obtain ⟨k, hk, rfl, HK, HW⟩ := hrel
    by_cases hlt : k < n
    · have hck := HW.out.cell (hcells k hlt) id
      have hAk := hA k hlt
      have hNk := hN k hlt
      clear hcells hA hN hY h0
      generalize l.getD k 0 = c at *
      have c0 := c.toNat_lt
      have hi := hix c
      have HI := Lib.hid (show Lib.indexByte o c = Lib.indexByte o c from rfl)
      obtain ⟨z, hz⟩ : ∃ z, Lib.indexByte o c = z := ⟨_, rfl⟩
      rw [show Lib.indexByte (⟨o.toArray⟩ : ByteArray).data.toList c = z from hz] at hi
      rw [hz] at hAk hNk
      clear HI hz hix
      by_cases hz0 : 0 ≤ z
      · have hd : decide (z < 0) = false := decide_eq_false (by omega)
        have HK2 : Hid ((l.take (k + 1)).all (fun c => decide (0 ≤ Lib.indexByte o c)) = true) := by show _ = _; rw [hAk.out, HK.out, decide_eq_true hz0]; rfl
        clear hAk hNk HK
        go_wp2_with (go_at_call 81; refine (hi _).mono ?_; rintro e w2 ⟨rfl, rfl⟩)
        go_roundw
        case rel => exact ⟨k + 1, by omega, by go_num, HK2, by first | exact HW | exact Lib.hid (HW.out.drew) | exact Lib.hid (HW.out.drew.drew)⟩
        case measure => simp [intOf]; omega
      · have hd : decide (z < 0) = true := decide_eq_true (by omega)
        have hr := hNk (decide_eq_false hz0)
        clear hAk hNk HK
        go_wp2_with (go_at_call 81; refine (hi _).mono ?_; rintro e w2 ⟨rfl, rfl⟩)
        go_ret
        rw [hr.out]
        exact ⟨rfl, (HF.out.trans (by first | exact HW.out | exact HW.out.drew | exact HW.out.drew.drew)).below (Nat.le_refl _) (fun _ _ => id)⟩
    · obtain rfl : k = n := by omega
      have hYk := hY HK.out
      clear hA hN hY h0 hcells hix HK
      by_cases h0 : l = []
      · have hS0 : S.toList = [] := hE.out.trans h0
        have HI := Lib.hid (show (!l.isEmpty && decide ((k : Int) ≤ m)) = false by rw [h0]; rfl)
        clear h0
        go_wp2
        go_ret
        rw [hYk.out, HI.out]
        exact ⟨rfl, (HF.out.trans (by first | exact HW.out | exact HW.out.drew | exact HW.out.drew.drew)).below (Nat.le_refl _) (fun _ _ => id)⟩
      · have hS0 : ¬ S.toList = [] := fun h => h0 (hE.out.symm.trans h)
        have HI := Lib.hid (show (!l.isEmpty && decide ((k : Int) ≤ m)) = decide ((k : Int) ≤ m) by cases l with | nil => exact absurd rfl h0 | cons a t => rfl)
        clear h0
        go_wp2
        go_ret
        rw [hYk.out, HI.out]
        exact ⟨by show Ending.returned (Value.bool (!S.toList.isEmpty && decide ((k : Int) ≤ m))) = _; rw [show S.toList.isEmpty = false by cases hq : S.toList with | nil => exact absurd hq hS0 | cons a t => rfl]; simp, (HF.out.trans (by first | exact HW.out | exact HW.out.drew | exact HW.out.drew.drew)).below (Nat.le_refl _) (fun _ _ => id)⟩
end Go.Proofs.YtghcadbmjglidaaGreatDoor
end
section
set_option linter.unusedVariables false
namespace Go.Proofs.YtghcadbmjglidaaGreatDoor
open Go.RowKit
set_option maxRecDepth 100000 in
set_option maxHeartbeats 4000000 in
theorem upto_any (x sep : List UInt8) (g : Nat) (m : Int) (w : World) (hb : Boxed w g 9 (str x)) (hm : w.cell? ⟨0, 0, none⟩ = some (.int .i64 m)) (hx : x.length ≤ 1000000000) :
    Calls Tryz.prog 18 #[str sep, .pointer (some ⟨g, 0, none⟩)] w fun e w' => e = .returned (str (Lib.cut x sep).1) ∧ Boxed w' g 9 (str (Lib.cut x sep).2.1) ∧ Fr (fun k => k = g) w w' := by
  have hcut := Tryz.strings_Cut ⟨x.toArray⟩ ⟨sep.toArray⟩ m w (by show x.length < _; omega) hm
  have hc := hb.cell
  have hf := hb.frozen
  have HB := Lib.hid hb
  have hbs := fun (W : World) (v : Value) (h : Boxed W g 9 v) => h
  obtain ⟨r1, hr1⟩ : ∃ r, (Lib.cut x sep).1 = r := ⟨_, rfl⟩
  obtain ⟨r2, hr2⟩ : ∃ r, (Lib.cut x sep).2.1 = r := ⟨_, rfl⟩
  obtain ⟨r3, hr3⟩ : ∃ r, (Lib.cut x sep).2.2 = r := ⟨_, rfl⟩
  rw [hr1, hr2]
  change Calls _ _ _ _ (fun e w' => e = .returned (.tuple #[str (Lib.cut x sep).1, str (Lib.cut x sep).2.1, .bool (Lib.cut x sep).2.2]) ∧ ∃ n, w' = w.drewN n) at hcut
  rw [hr1, hr2, hr3] at hcut
  clear hr1 hr2 hr3 hbs hb hm
  go_enter Tryz.func18, Tryz.ntmps18
  go_wp2_with (go_at_call 19; refine hcut.mono ?_; rintro e w2 ⟨rfl, n, rfl⟩)
  go_ret
  refine ⟨rfl, ?_, ?_⟩
  · exact Boxed.set _ (show Boxed (w.drewN n) g _ _ from HB.out)
  · exact (Fr.refl _ _ : Fr (fun k => k = g) w w).drewN n |>.setCell _ _ fun _ => rfl
theorem blk4 {W : World} {g T : Nat} {a b c d : Value} (h : W.heap[g]? = some (.cells #[a, b, c, d] T (0, 0))) :
    (W.cell? ⟨g, 0, none⟩ = some a ∧ W.cell? ⟨g, 1, none⟩ = some b ∧ W.cell? ⟨g, 2, none⟩ = some c ∧ W.cell? ⟨g, 3, none⟩ = some d) ∧ (∀ j, W.frozen? ⟨g, j, none⟩ = false) :=
  ⟨⟨by rw [Lib.cell_of_heap h]; rfl, by rw [Lib.cell_of_heap h]; rfl, by rw [Lib.cell_of_heap h]; rfl, by rw [Lib.cell_of_heap h]; rfl⟩, fun j => Lib.frozen_of_heap h j⟩
structure StA (w : World) (g : Nat) (rest a b c d : Value) (W : World) : Prop where
  bx : Boxed W (w.heap.size + 1) 9 rest
  rs : W.heap[w.heap.size]? = some (.cells #[.string ⟨#[]⟩, .string ⟨#[]⟩, .slice none 0 0, .string ⟨#[]⟩] 26 (0, 0))
  ha : W.heap[g]? = some (.cells #[a, b, c, d] 26 (0, 0))
  lt : w.heap.size + 2 ≤ g
  fr : Fr (fun _ => False) w W
namespace StA
variable {w W W' : World} {g : Nat} {rest a b c d : Value}
theorem below (h : StA w g rest a b c d W) (hb : Below W.heap.size W W') : StA w g rest a b c d W' :=
  have f : Fr (fun _ => False) W W' := Fr.of_below0 hb
  ⟨f.heap h.bx id, f.heap h.rs id, f.heap h.ha id, h.lt, h.fr.trans f⟩
theorem upto (h : StA w g rest a b c d W) {rest' : Value} (hb : Boxed W' (w.heap.size + 1) 9 rest') (hf : Fr (fun k => k = w.heap.size + 1) W W') : StA w g rest' a b c d W' :=
  ⟨hb, hf.heap h.rs (by omega), hf.heap h.ha (by have := h.lt; omega), h.lt, h.fr.then_ hf (fun k h1 h2 => by omega)⟩
theorem set (h : StA w g rest a b c d W) (j : Nat) (u : Value) {a' b' c' d' : Value} (he : (#[a, b, c, d] : Array Value).setIfInBounds j u = #[a', b', c', d']) : StA w g rest a' b' c' d' (W.setCell ⟨g, j, none⟩ u) := by
  have hl := h.lt
  refine ⟨(Below.heap_setCell W ⟨g, j, none⟩ u _ (by show _ ≠ g; omega)).trans h.bx, (Below.heap_setCell W ⟨g, j, none⟩ u _ (by show _ ≠ g; omega)).trans h.rs, ?_, hl, h.fr.setCell _ _ (fun h9 => by have h8 : g < w.heap.size := h9; omega)⟩
  rw [heap_setCell h.ha, he]
theorem cells (h : StA w g rest a b c d W) : (W.cell? ⟨g, 0, none⟩ = some a ∧ W.cell? ⟨g, 1, none⟩ = some b ∧ W.cell? ⟨g, 2, none⟩ = some c ∧ W.cell? ⟨g, 3, none⟩ = some d) ∧ (∀ j, W.frozen? ⟨g, j, none⟩ = false) := blk4 h.ha
theorem resc (h : StA w g rest a b c d W) : (W.cell? ⟨w.heap.size, 0, none⟩ = some (.string ⟨#[]⟩) ∧ W.cell? ⟨w.heap.size, 1, none⟩ = some (.string ⟨#[]⟩) ∧ W.cell? ⟨w.heap.size, 2, none⟩ = some (.slice none 0 0) ∧ W.cell? ⟨w.heap.size, 3, none⟩ = some (.string ⟨#[]⟩)) ∧ (∀ j, W.frozen? ⟨w.heap.size, j, none⟩ = false) := blk4 h.rs
theorem res (h : StA w g rest a b c d W) (x0 x1 x2 x3 : Value) :
    ∃ W', W' = (((W.setCell ⟨w.heap.size, 0, none⟩ x0).setCell ⟨w.heap.size, 1, none⟩ x1).setCell ⟨w.heap.size, 2, none⟩ x2).setCell ⟨w.heap.size, 3, none⟩ x3 ∧
      (W'.cell? ⟨w.heap.size, 0, none⟩ = some x0 ∧ W'.cell? ⟨w.heap.size, 1, none⟩ = some x1 ∧ W'.cell? ⟨w.heap.size, 2, none⟩ = some x2 ∧ W'.cell? ⟨w.heap.size, 3, none⟩ = some x3) ∧
      Fr (fun _ => False) w W' ∧ ∀ k, k ≠ w.heap.size → W'.heap[k]? = W.heap[k]? := by
  refine ⟨_, rfl, ?_, (((h.fr.setCell _ _ (fun h9 => absurd h9 (Nat.lt_irrefl _))).setCell _ _ (fun h9 => absurd h9 (Nat.lt_irrefl _))).setCell _ _ (fun h9 => absurd h9 (Nat.lt_irrefl _))).setCell _ _ (fun h9 => absurd h9 (Nat.lt_irrefl _)), fun k hk => ?_⟩
  · have e := heap_setCell (j := 3) (heap_setCell (j := 2) (heap_setCell (j := 1) (heap_setCell (j := 0) h.rs x0) x1) x2) x3
    exact (blk4 (a := x0) (b := x1) (c := x2) (d := x3) (by rw [e]; rfl)).1
  · rw [Below.heap_setCell _ _ _ _ (by exact hk), Below.heap_setCell _ _ _ _ (by exact hk), Below.heap_setCell _ _ _ _ (by exact hk), Below.heap_setCell _ _ _ _ (by exact hk)]
end StA
end Go.Proofs.YtghcadbmjglidaaGreatDoor
end
section
set_option linter.unusedVariables false
namespace Go.Proofs.YtghcadbmjglidaaGreatDoor
open Go.RowKit
theorem bld_of_at {b : Nat} {p : Value} {w : World} (hp : p = .pointer none ∨ p = .pointer (some ⟨b, 0, none⟩)) (h : Lib.BuilderAt 88 5 b b p [] w) : Bld b (b + 1) [] w := by
  obtain ⟨_, v, h1, h2, h3⟩ := h
  refine ⟨Nat.lt_succ_self b, p, v, hp, h1, h2.1, ?_⟩
  rcases h2.2 with hn | ⟨g, cap, cur, rfl, hg, r⟩
  · exact .inl hn
  · refine .inr ⟨g, cap, cur, rfl, ?_, r⟩
    have : g ≠ b := fun e => h3 (by rw [e]; rfl)
    omega
set_option maxHeartbeats 1000000 in
theorem Grow_ok (b n : Nat) (w : World) (hbk : w.heap[b]? = some (.cells #[.pointer none, .slice none 0 0] 88 (0, 0))) (hn : n ≤ 281474976710656) :
    Calls Tryz.prog 52 #[.pointer (some ⟨b, 0, none⟩), .int .i64 n] w fun e w' => e = .returned (.tuple #[]) ∧ Bld b (b + 1) [] w' ∧ Fr (fun k => b ≤ k) w w' := by
  have hlt := block_lt hbk
  have hcc := copyCheck_fresh b w (by simp [World.cell?, hbk]) (by simp [World.shape?, hbk]) (by simp [World.frozen?, hbk])
  have hb1 : (w.setCell ⟨b, 0, none⟩ (.pointer (some ⟨b, 0, none⟩))).heap[b]? = some (.cells #[.pointer (some ⟨b, 0, none⟩), .slice none 0 0] 88 (0, 0)) := by
    simp [World.setCell, Array.getElem?_modify, hbk]
  have hf1 : Fr (fun k => b ≤ k) w (w.setCell ⟨b, 0, none⟩ (.pointer (some ⟨b, 0, none⟩))) := (Fr.refl _ _).setCell _ _ fun _ => Nat.le_refl _
  have hs1 : (w.setCell ⟨b, 0, none⟩ (.pointer (some ⟨b, 0, none⟩))).heap.size = w.heap.size := by simp
  generalize hW : w.setCell ⟨b, 0, none⟩ (.pointer (some ⟨b, 0, none⟩)) = W at *
  clear hW
  have c1 : W.cell? ⟨b, 1, none⟩ = some (.slice none 0 0) := by rw [Lib.cell_of_heap hb1]; rfl
  have hg := fun q => Tryz.Builder_grow_fresh b b n (W.drewN q) (Nat.le_refl _) hb1 (by show b ≤ W.heap.size; omega) hn
  go_enter Tryz.func52, Tryz.ntmps52
  go_wp2_with (go_at_call 88; refine hcc.mono ?_; rintro e w1 ⟨rfl, rfl⟩)
  go_quiet (fail)
  by_cases h0 : (0 : Int) < (n : Int)
  · go_wp2_with (go_at_call 89; refine (hg _).mono ?_; rintro e w2 ⟨rfl, hb2, hb3⟩)
    go_end0
    exact ⟨rfl, bld_of_at (.inr rfl) hb2, hf1.trans (Fr.of_below (hb3 : Below b _ w2) |> fun q => ⟨q.os, q.tape, q.output, q.size, q.keep⟩)⟩
  · go_wp2
    go_end0
    refine ⟨rfl, ?_, hf1.drewN _⟩
    exact ⟨Nat.lt_succ_self b, Value.pointer (some ⟨b, 0, none⟩), Value.slice none 0 0, Or.inr rfl, hb1, World.ownsRow_nil _ _ _ _⟩
theorem Bld.lt {b base : Nat} {l : List UInt8} {w : World} (h : Bld b base l w) : b < w.heap.size := by
  obtain ⟨_, _, _, _, h1, _⟩ := h
  exact block_lt h1
def TRow (w : World) (g : Nat) (xs : List (List UInt8)) : Prop := ∀ i, i < xs.length → w.cell? ⟨g, i, none⟩ = some (str (xs.getD i []))
theorem TRow.fr {M : Nat → Prop} {w w' : World} {g : Nat} {xs : List (List UInt8)} (h : TRow w g xs) (hf : Fr M w w') (hM : ¬ M g) : TRow w' g xs := fun i hi => hf.cell (h i hi) hM
theorem jn_take (sep : List UInt8) (xs : List (List UInt8)) (k : Nat) (h0 : 0 < k) (hk : k < xs.length) : Uri.jn sep (xs.take (k + 1)) = Uri.jn sep (xs.take k) ++ sep ++ xs.getD k [] := by
  rw [List.take_succ_eq_append_getElem hk, Uri.jn_snoc sep _ _ (by intro h; have := congrArg List.length h; simp at this; first | omega | (rcases this with h5 | h5 <;> first | omega | (subst h5; simp at hk)))]
  congr 1
  simp [List.getD_eq_getElem?_getD, List.getElem?_eq_getElem hk]
theorem sum_take (xs : List (List UInt8)) (k : Nat) (hk : k < xs.length) : ((xs.take (k + 1)).map List.length).sum = ((xs.take k).map List.length).sum + (xs.getD k []).length := by
  rw [List.take_succ_eq_append_getElem hk, List.map_append, List.sum_append]
  simp [List.getD_eq_getElem?_getD, List.getElem?_eq_getElem hk]
theorem sum_le (xs : List (List UInt8)) (k : Nat) : ((xs.take k).map List.length).sum ≤ (xs.map List.length).sum := by
  conv => rhs; rw [← List.take_append_drop k xs, List.map_append, List.sum_append]
  omega
theorem tdiv_big (n m : Nat) (h0 : 2 ≤ n) (hn : n ≤ 1000000) (hm : m ≤ 1000000) : decide (9223372036854775807 / ((n : Int) - 1) ≤ (m : Int)) = false := by
  rw [decide_eq_false_iff_not, Int.not_le]
  have : ((m : Int) + 1) ≤ 9223372036854775807 / ((n : Int) - 1) := by
    rw [Int.le_ediv_iff_mul_le (by omega)]
    have h1 : ((m : Int) + 1) * ((n : Int) - 1) ≤ 1000001 * 1000000 := by
      have e1 : ((m : Int) + 1) * ((n : Int) - 1) ≤ 1000001 * ((n : Int) - 1) := Int.mul_le_mul_of_nonneg_right (by omega) (by omega)
      omega
    omega
  omega
set_option maxRecDepth 100000 in
set_option maxHeartbeats 4000000 in
theorem strings_Join_many (xs : List (List UInt8)) (sep : List UInt8) (g c : Nat) (w : World) (hx : TRow w g xs) (h2 : 2 ≤ xs.length) (hn : xs.length ≤ 1000000) (hs : 0 < sep.length ∧ sep.length ≤ 1000)
    (hsum : (xs.map List.length).sum ≤ 10000000000) (hg : g < w.heap.size) (hc : xs.length ≤ c) :
    Calls Tryz.prog 26 #[.slice (some ⟨g, 0, none⟩) xs.length c, str sep] w fun e w' => e = .returned (str (Uri.jn sep xs)) ∧ Below w.heap.size w w' := by
  have hO : ∀ k, k < xs.length → Hid (((xs.take (k + 1)).map List.length).sum = ((xs.take k).map List.length).sum + (xs.getD k []).length) := fun k h => sum_take xs k h
  have hle : ∀ k, ((xs.take k).map List.length).sum ≤ (xs.map List.length).sum := sum_le xs
  have hJ : ∀ k, 0 < k → k < xs.length → Hid (Uri.jn sep (xs.take (k + 1)) = Uri.jn sep (xs.take k) ++ sep ++ xs.getD k []) := fun k h0 h => jn_take sep xs k h0 h
  have hJ1 : Hid (Uri.jn sep (xs.take 1) = xs.getD 0 []) := by
    show _ = _
    match xs, h2 with
    | x :: t, _ => simp [Uri.jn]
  have hJE : Hid (Uri.jn sep (xs.take xs.length) = Uri.jn sep xs) := by show _ = _; rw [List.take_length]
  have hlen : ∀ k, (Uri.jn sep (xs.take k)).length ≤ (xs.map List.length).sum + sep.length * xs.length := fun k => by
    have h3 := Uri.jn_len sep (xs.take k)
    have h4 := hle k
    have h5 : sep.length * (xs.take k).length ≤ sep.length * xs.length := Nat.mul_le_mul_left _ (List.length_take_le' k xs)
    omega
  have hmul : sep.length * xs.length ≤ 1000000000 := by
    have := Nat.mul_le_mul hs.2 hn; omega
  have hq := tdiv_big xs.length sep.length h2 hn (by omega)
  have hS : 0 ≤ (xs.map List.length).sum := Nat.zero_le _
  obtain ⟨n, hnn⟩ : ∃ n, n = xs.length := ⟨_, rfl⟩
  have hcell : ∀ i, i < n → w.cell? ⟨g, i, none⟩ = some (str (xs.getD i [])) := fun i hi => hx i (by omega)
  rw [← hnn] at h2 hn hO hJ hJE hlen hmul hq hc ⊢
  clear hx hnn
  obtain ⟨f, hf⟩ : ∃ f : Nat → List UInt8, ∀ i, xs.getD i [] = f i := ⟨_, fun _ => rfl⟩
  simp only [hf] at hcell hO hJ hJ1
  clear hf
  generalize (xs.map List.length).sum = N at *
  have h0 : Hid (((xs.take 0).map List.length).sum = 0) := rfl
  obtain ⟨G, hG⟩ : ∃ G : Nat → Nat, ∀ i, ((xs.take i).map List.length).sum = G i := ⟨_, fun _ => rfl⟩
  simp only [hG] at hO hle h0
  clear hG
  obtain ⟨J, hJJ⟩ : ∃ J : Nat → List UInt8, ∀ i, Uri.jn sep (xs.take i) = J i := ⟨_, fun _ => rfl⟩
  simp only [hJJ] at hJ hJ1 hJE hlen
  clear hJJ
  generalize Uri.jn sep xs = R at *
  obtain ⟨S, hSS⟩ : ∃ S : ByteArray, S = ⟨sep.toArray⟩ := ⟨_, rfl⟩
  have hSz : S.size = sep.length := by rw [hSS]; rfl
  show Calls _ _ #[_, .string ⟨sep.toArray⟩] _ _
  rw [← hSS]
  rw [← hSz] at hs hq hmul hlen
  have HS := Lib.hid hSS
  have HSz := Lib.hid hSz
  clear hSS hSz
  obtain ⟨p, hp⟩ : ∃ p : Nat, (S.size : Int) * ((n : Int) - 1) = (p : Int) := ⟨S.size * (n - 1), by rw [Int.natCast_mul, Int.ofNat_sub (by omega)]; rfl⟩
  have hpl : p ≤ 1000000000 := by
    have h3 : (S.size : Int) * ((n : Int) - 1) ≤ (S.size : Int) * (n : Int) := Int.mul_le_mul_of_nonneg_left (by omega) (by omega)
    have h4 : ((S.size * n : Nat) : Int) = (S.size : Int) * (n : Int) := Int.natCast_mul _ _
    omega
  have z0 : IntKind.i64.wrap ((n : Int) - 1) = (n : Int) - 1 := IntWalk.i64_in _ (by omega)
  have z1 : IntKind.i64.wrap ((S.size : Int) * ((n : Int) - 1)) = (p : Int) := by rw [hp]; exact IntWalk.i64_in _ (by omega)
  have z2 : IntKind.i64.wrap (0 + (p : Int)) = (p : Int) := by rw [Int.zero_add]; exact IntWalk.i64_in _ (by omega)
  go_enter Tryz.func26, Tryz.ntmps26
  go_wp2
  go_loop [5, 41] (fun v i => ∃ k : Nat, k ≤ n ∧ i = .int .i64 k ∧ v = .int .i64 ((p + G k : Nat) : Int)) (fun _ i => n - (intOf i).toNat)
  case atStart => exact ⟨0, Nat.zero_le _, rfl, by rw [h0.out]; rfl⟩
  case round =>
    obtain ⟨k, hk, rfl, rfl⟩ := hrel
    have hlk := hle k
    have hle1 := hle (k + 1)
    clear hle hq z0 z1 z2 hp
    by_cases hlt : k < n
    · have hck := hcell k hlt
      have hok := hO k hlt
      have hl2 : G k + (f k).length ≤ N + (f k).length := by omega
      have hxl : (f k).length ≤ 10000000000 := by have := hle1; have := hok.out; omega
      clear hcell hO h0 hJ hJ1 hJE hlen
      have hz : (⟨(f k).toArray⟩ : ByteArray).size = (f k).length := rfl
      generalize f k = x at *
      go_wp2
      go_round
      case rel => exact ⟨k + 1, by omega, by go_num, by rw [hok.out]; first | rfl | (push_cast; congr 1; omega)⟩
      case measure => simp [intOf]; omega
    · clear hO h0 hle1
      have c0 := hcell 0 (by omega)
      have hgr := Grow_ok w.heap.size (p + G k) (w.alloc (.cells #[.pointer none, .slice none 0 0] 88)) (heap_alloc_new w _) (by omega)
      have hF0 : Fr (fun k => w.heap.size ≤ k) w (w.alloc (.cells #[.pointer none, .slice none 0 0] 88)) := (Fr.refl _ _).alloc _
      have hW0 : (w.alloc (.cells #[.pointer none, .slice none 0 0] 88)).heap.size = w.heap.size + 1 := by simp
      have hl0 : (f 0).length ≤ 20000000000 := by have h5 := hlen 1; rw [hJ1.out] at h5; omega
      generalize hT : p + G k = T at *
      go_wp2_with (first
        | (go_at_call 52; refine hgr.mono ?_; rintro e w2 ⟨rfl, hB2, hF2⟩
           have c2 : w2.cell? ⟨g, 0, none⟩ = some (str (f 0)) := Fr.cell (Fr.trans hF0 hF2) c0 (by show ¬ w.heap.size ≤ g; omega))
        | (go_at_call 53; refine (WriteString_ok w.heap.size (w.heap.size + 1) [] (f 0) w2 hB2 (by simp; omega) (by have := hF2.size; omega)).mono ?_; rintro e w3 ⟨⟨nw, rfl⟩, hB3, hF3⟩))
      rw [List.nil_append, ← hJ1.out] at hB3
      have hFr3 : Fr (fun k => w.heap.size ≤ k) w w3 := Fr.then_ (Fr.trans hF0 hF2) hF3 fun k _ h => by rcases h with h | h <;> omega
      clear hB2 hF2 hF3 c2 hgr hF0 c0 hT hJ1 hl0 hlk
      go_loopw [65] (fun i wr => ∃ q : Nat, q + 1 ≤ n ∧ i = .int .i64 q ∧ Bld w.heap.size (w.heap.size + 1) (J (q + 1)) wr ∧ Fr (fun k => w.heap.size ≤ k) w wr) (fun i _ => n - (intOf i).toNat)
      case atStart => exact ⟨0, by omega, rfl, hB3, hFr3⟩
      case round =>
        obtain ⟨q, hq1, rfl, hBq, hFq⟩ := hrel
        have hSq := hBq.lt
        clear hB3 hFr3
        by_cases hlt : q + 1 < n
        · have cq := hFq.cell (hcell (q + 1) hlt) (by show ¬ w.heap.size ≤ g; omega)
          have hJq := hJ (q + 1) (by omega) hlt
          have hlq := hlen (q + 2)
          rw [hJq.out, List.length_append, List.length_append] at hlq
          clear hcell hJ hJE hlen
          have e1 : 1 + q = q + 1 := by omega
          generalize f (q + 1) = x at *
          generalize J (q + 1) = acc at *
          have hws := WriteString_ok w.heap.size (w.heap.size + 1) acc sep wr hBq (by have := HSz.out; omega) hSq
          rw [← HS.out] at hws
          go_wp2_with (first
            | (go_at_call 53; refine hws2.mono ?_; clear hws2; rintro e w5 ⟨⟨nw, rfl⟩, hB5, hF5⟩)
            | (go_at_call 53; refine hws.mono ?_; clear hws; rintro e w4 ⟨⟨nw, rfl⟩, hB4, hF4⟩
               have hws2 := WriteString_ok w.heap.size (w.heap.size + 1) (acc ++ sep) x w4 hB4 (by have := HSz.out; simp; omega) hB4.lt))
          go_roundw
          case rel => exact ⟨q + 1, by omega, by go_num, by rw [hJq.out]; exact hB5, Fr.then_ (Fr.then_ hFq hF4 fun _ _ h => by rcases h with h | h <;> omega) hF5 fun _ _ h => by rcases h with h | h <;> omega⟩
          case measure => simp [intOf]; omega
        · have hqn : q + 1 = n := by omega
          rw [hqn, hJE.out] at hBq
          clear hcell hJ hJE hlen
          have hst := String_ok w.heap.size (w.heap.size + 1) R wr hBq (by omega)
          go_wp2_with (go_at_call 54; refine hst.mono ?_; rintro e w4 ⟨rfl, hb4⟩)
          go_ret
          exact ⟨rfl, (hFq.below (Nat.le_refl _) fun k hk => by omega).trans hb4⟩
theorem strings_Join_none (A : Option Addr) (c : Nat) (sep : List UInt8) (w : World) :
    Calls Tryz.prog 26 #[.slice A 0 c, str sep] w fun e w' => e = .returned (str []) ∧ Below w.heap.size w w' := by
  go_enter Tryz.func26, Tryz.ntmps26
  go_wp2
  go_ret
  exact ⟨rfl, Below.refl _ _⟩
theorem strings_Join_one (x sep : List UInt8) (g c : Nat) (w : World) (hx : w.cell? ⟨g, 0, none⟩ = some (str x)) :
    Calls Tryz.prog 26 #[.slice (some ⟨g, 0, none⟩) 1 c, str sep] w fun e w' => e = .returned (str x) ∧ Below w.heap.size w w' := by
  go_enter Tryz.func26, Tryz.ntmps26
  go_wp2
  go_ret
  exact ⟨rfl, Below.refl _ _⟩
def tcells (xs : List (List UInt8)) : List Value := xs.map str
theorem strings_Join (xs : List (List UInt8)) (sep : List UInt8) (base : Nat) (v : Value) (w : World) (hown : w.ownsRow base 9 1 v xs.length (tcells xs)) (hn : xs.length ≤ 1000000) (hs : 0 < sep.length ∧ sep.length ≤ 1000)
    (hsum : (xs.map List.length).sum ≤ 10000000000) :
    Calls Tryz.prog 26 #[v, str sep] w fun e w' => e = .returned (str (Uri.jn sep xs)) ∧ Below w.heap.size w w' := by
  have hlt := hown.lt
  rcases hown.2 with ⟨rfl, h0⟩ | ⟨g, cap, cur, rfl, hg, hh, hcap, _⟩
  · obtain rfl : xs = [] := List.eq_nil_of_length_eq_zero h0
    exact strings_Join_none none 0 sep w
  · have hrow : TRow w g xs := fun i hi => by
      have hc := hown.cells (g := g) rfl i (str (xs.getD i [])) (by simp [tcells, List.getD_eq_getElem?_getD, List.getElem?_eq_getElem hi])
      rwa [addr_add0] at hc
    by_cases h2 : 2 ≤ xs.length
    · exact strings_Join_many xs sep g cap w hrow h2 hn hs hsum (block_lt hh) hcap
    · rcases xs with _ | ⟨x, _ | ⟨y, t⟩⟩
      · exact strings_Join_none _ _ sep w
      · have := strings_Join_one x sep g cap w (hrow 0 (by simp))
        rw [Uri.jn_one]
        exact this
      · simp at h2
end Go.Proofs.YtghcadbmjglidaaGreatDoor
end
section
set_option linter.unusedVariables false
namespace Go.Proofs.YtghcadbmjglidaaGreatDoor
open Go.RowKit
theorem blk5 {W : World} {g T : Nat} {a b c d e : Value} (h : W.heap[g]? = some (.cells #[a, b, c, d, e] T (0, 0))) :
    (W.cell? ⟨g, 0, none⟩ = some a ∧ W.cell? ⟨g, 1, none⟩ = some b ∧ W.cell? ⟨g, 2, none⟩ = some c ∧ W.cell? ⟨g, 3, none⟩ = some d ∧ W.cell? ⟨g, 4, none⟩ = some e) ∧ (∀ j, W.frozen? ⟨g, j, none⟩ = false) :=
  ⟨⟨by rw [Lib.cell_of_heap h]; rfl, by rw [Lib.cell_of_heap h]; rfl, by rw [Lib.cell_of_heap h]; rfl, by rw [Lib.cell_of_heap h]; rfl, by rw [Lib.cell_of_heap h]; rfl⟩, fun j => Lib.frozen_of_heap h j⟩
structure AtR (w : World) (m p q hv bv : Value) (W : World) : Prop where
  rq : W.heap[w.heap.size]? = some (.cells #[m, p, q, hv, bv] 44 (0, 0))
  rs : W.heap[w.heap.size + 1]? = some (.cells #[.string ⟨#[]⟩, .string ⟨#[]⟩, .string ⟨#[]⟩, .slice none 0 0, .slice none 0 0] 44 (0, 0))
  fr : Fr (fun _ => False) w W
namespace AtR
variable {w W W' : World} {m p q hv bv : Value}
theorem mov (h : AtR w m p q hv bv W) {M : Nat → Prop} (f : Fr M W W') (hM : ∀ k, M k → w.heap.size + 2 ≤ k) : AtR w m p q hv bv W' :=
  ⟨f.heap h.rq (fun h9 => by have := hM _ h9; omega), f.heap h.rs (fun h9 => by have := hM _ h9; omega), h.fr.then_ f (fun k h1 h2 => by have := hM _ h2; omega)⟩
theorem below (h : AtR w m p q hv bv W) (hb : Below W.heap.size W W') : AtR w m p q hv bv W' := h.mov (Fr.of_below0 hb) (fun _ h => h.elim)
theorem cells (h : AtR w m p q hv bv W) : (W.cell? ⟨w.heap.size, 0, none⟩ = some m ∧ W.cell? ⟨w.heap.size, 1, none⟩ = some p ∧ W.cell? ⟨w.heap.size, 2, none⟩ = some q ∧ W.cell? ⟨w.heap.size, 3, none⟩ = some hv ∧ W.cell? ⟨w.heap.size, 4, none⟩ = some bv) ∧ (∀ j, W.frozen? ⟨w.heap.size, j, none⟩ = false) := blk5 h.rq
theorem resc (h : AtR w m p q hv bv W) : (W.cell? ⟨w.heap.size + 1, 0, none⟩ = some (.string ⟨#[]⟩) ∧ W.cell? ⟨w.heap.size + 1, 1, none⟩ = some (.string ⟨#[]⟩) ∧ W.cell? ⟨w.heap.size + 1, 2, none⟩ = some (.string ⟨#[]⟩) ∧ W.cell? ⟨w.heap.size + 1, 3, none⟩ = some (.slice none 0 0) ∧ W.cell? ⟨w.heap.size + 1, 4, none⟩ = some (.slice none 0 0)) ∧ (∀ j, W.frozen? ⟨w.heap.size + 1, j, none⟩ = false) := blk5 h.rs
theorem lt (h : AtR w m p q hv bv W) : w.heap.size + 2 ≤ W.heap.size := block_lt h.rs
theorem set (h : AtR w m p q hv bv W) (j : Nat) (u : Value) {m' p' q' hv' bv' : Value} (he : (#[m, p, q, hv, bv] : Array Value).setIfInBounds j u = #[m', p', q', hv', bv']) : AtR w m' p' q' hv' bv' (W.setCell ⟨w.heap.size, j, none⟩ u) := by
  refine ⟨?_, (Below.heap_setCell W ⟨w.heap.size, j, none⟩ u _ (by show _ ≠ w.heap.size; omega)).trans h.rs, h.fr.setCell _ _ (fun h9 => absurd h9 (Nat.lt_irrefl _))⟩
  rw [heap_setCell h.rq, he]
theorem res (h : AtR w m p q hv bv W) (x0 x1 x2 x3 x4 : Value) :
    ∃ W', W' = ((((W.setCell ⟨w.heap.size + 1, 0, none⟩ x0).setCell ⟨w.heap.size + 1, 1, none⟩ x1).setCell ⟨w.heap.size + 1, 2, none⟩ x2).setCell ⟨w.heap.size + 1, 3, none⟩ x3).setCell ⟨w.heap.size + 1, 4, none⟩ x4 ∧
      (W'.cell? ⟨w.heap.size + 1, 0, none⟩ = some x0 ∧ W'.cell? ⟨w.heap.size + 1, 1, none⟩ = some x1 ∧ W'.cell? ⟨w.heap.size + 1, 2, none⟩ = some x2 ∧ W'.cell? ⟨w.heap.size + 1, 3, none⟩ = some x3 ∧ W'.cell? ⟨w.heap.size + 1, 4, none⟩ = some x4) ∧
      Fr (fun _ => False) w W' ∧ Fr (fun k => k = w.heap.size + 1) W W' := by
  refine ⟨_, rfl, ?_, ((((h.fr.setCell _ _ (fun h9 => absurd h9 (by show ¬ w.heap.size + 1 < _; omega))).setCell _ _ (fun h9 => absurd h9 (by show ¬ w.heap.size + 1 < _; omega))).setCell _ _ (fun h9 => absurd h9 (by show ¬ w.heap.size + 1 < _; omega))).setCell _ _ (fun h9 => absurd h9 (by show ¬ w.heap.size + 1 < _; omega))).setCell _ _ (fun h9 => absurd h9 (by show ¬ w.heap.size + 1 < _; omega)), ?_⟩
  · have e := heap_setCell (j := 4) (heap_setCell (j := 3) (heap_setCell (j := 2) (heap_setCell (j := 1) (heap_setCell (j := 0) h.rs x0) x1) x2) x3) x4
    exact (blk5 (a := x0) (b := x1) (c := x2) (d := x3) (e := x4) (by rw [e]; rfl)).1
  · exact ((((Fr.refl _ _ : Fr (fun k => k = w.heap.size + 1) W W).setCell _ _ (fun _ => rfl)).setCell _ _ (fun _ => rfl)).setCell _ _ (fun _ => rfl)).setCell _ _ (fun _ => rfl) |>.setCell _ _ (fun _ => rfl)
end AtR
end Go.Proofs.YtghcadbmjglidaaGreatDoor
end
section
set_option linter.unusedVariables false
namespace Go.Proofs.YtghcadbmjglidaaGreatDoor
open Go.RowKit
def pr1 (x : Int) : UInt8 := (48 + x / 10 % 10).toNat.toUInt8
def pr2 (x : Int) : UInt8 := (48 + x % 10).toNat.toUInt8
def prTwo (x : Int) : List UInt8 := [pr1 x, pr2 x]
theorem pr1_ok (x : Int) (h0 : 0 ≤ x) (h1 : x < 100) : 48 + x / 10 % 10 = ((pr1 x).toNat : Int) := by
  unfold pr1
  rw [Nat.toUInt8_eq, UInt8.toNat_ofNat']
  omega
theorem pr2_ok (x : Int) (h0 : 0 ≤ x) (h1 : x < 100) : 48 + x % 10 = ((pr2 x).toNat : Int) := by
  unfold pr2
  rw [Nat.toUInt8_eq, UInt8.toNat_ofNat']
  omega
def hexD (n : Nat) : UInt8 := if n < 10 then (48 + n).toUInt8 else (87 + n).toUInt8
def hx1 (x : Int) : UInt8 := hexD (x.toNat / 16)
def hx2 (x : Int) : UInt8 := hexD (x.toNat % 16)
def hexTwo (x : Int) : List UInt8 := [hx1 x, hx2 x]
theorem hx_and15 (x : Int) (h0 : 0 ≤ x) (h1 : x < 256) : bits BinOp.and IntKind.u8 x 15 = x % 16 := by
  have key : ∀ i : Fin 256, bits BinOp.and IntKind.u8 (i.val : Int) 15 = (i.val : Int) % 16 := by decide +kernel
  have := key ⟨x.toNat, by omega⟩
  simpa [Int.toNat_of_nonneg h0] using this
theorem hx_idx (n : Int) (h0 : 0 ≤ n) (h1 : n < 16) (W : World) : (Instr.index 9 (.string ⟨#[48, 49, 50, 51, 52, 53, 54, 55, 56, 57, 97, 98, 99, 100, 101, 102]⟩) (.int .u8 n)).run Tryz.prog W = .ok (.int .u8 ((hexD n.toNat).toNat : Int)) W := by
  obtain ⟨k, rfl⟩ : ∃ k : Nat, n = (k : Int) := ⟨n.toNat, by omega⟩
  match k, h1 with
  | 0, _ | 1, _ | 2, _ | 3, _ | 4, _ | 5, _ | 6, _ | 7, _ | 8, _ | 9, _ | 10, _ | 11, _ | 12, _ | 13, _ | 14, _ | 15, _ => show _ = _; kernel_rfl
theorem hx1_idx (x : Int) (h0 : 0 ≤ x) (h1 : x < 256) (W : World) : (Instr.index 9 (.string ⟨#[48, 49, 50, 51, 52, 53, 54, 55, 56, 57, 97, 98, 99, 100, 101, 102]⟩) (.int .u8 (x / 16))).run Tryz.prog W = .ok (.int .u8 ((hx1 x).toNat : Int)) W := by
  rw [hx_idx _ (by omega) (by omega), hx1, show (x / 16).toNat = x.toNat / 16 by omega]
theorem hx2_idx (x : Int) (h0 : 0 ≤ x) (h1 : x < 256) (W : World) : (Instr.index 9 (.string ⟨#[48, 49, 50, 51, 52, 53, 54, 55, 56, 57, 97, 98, 99, 100, 101, 102]⟩) (.int .u8 (x % 16))).run Tryz.prog W = .ok (.int .u8 ((hx2 x).toNat : Int)) W := by
  rw [hx_idx _ (by omega) (by omega), hx2, show (x % 16).toNat = x.toNat % 16 by omega]
set_option maxRecDepth 100000 in
set_option maxHeartbeats 4000000 in
theorem clk_pairs (l : List Int) (hl : l.length ≤ 10000000) (hx : ∀ x ∈ l, 0 ≤ x ∧ x < 100) (A : Option Addr) (c : Nat) (w : World) (hA : 0 < l.length → ∃ ad, A = some ad ∧ ∀ j, j < l.length → w.cell? (ad.add j) = some (.int .i64 (l.getD j 0))) :
    Calls Tryz.prog 56 #[.slice A l.length c] w fun e w' => e = .returned (str (l.flatMap prTwo)) ∧ Below w.heap.size w w' := by
  have hT : ∀ k, k < l.length → Hid ((l.take (k + 1)).flatMap prTwo = (l.take k).flatMap prTwo ++ prTwo (l.getD k 0)) := fun k h => by
    show _ = _
    rw [List.take_succ_eq_append_getElem h, List.flatMap_append, List.flatMap_singleton, List.getD_eq_getElem?_getD, List.getElem?_eq_getElem h]; rfl
  have hE : Hid ((l.take l.length).flatMap prTwo = l.flatMap prTwo) := by show _ = _; rw [List.take_length]
  have hle : ∀ k, k ≤ l.length → ((l.take k).flatMap prTwo).length = 2 * k := fun k hk => by
    rw [List.length_flatMap, show (l.take k).map (fun x => (prTwo x).length) = List.replicate (l.take k).length 2 from by rw [List.eq_replicate_iff]; exact ⟨by simp, fun b hb => by obtain ⟨x, _, rfl⟩ := List.mem_map.1 hb; rfl⟩]
    simp
    omega
  have hb2 : ∀ k, k < l.length → 0 ≤ l.getD k 0 ∧ l.getD k 0 < 100 := fun k hk => by
    rw [List.getD_eq_getElem?_getD, List.getElem?_eq_getElem hk]; exact hx _ (List.getElem_mem hk)
  clear hx
  go_enter Tryz.func56, Tryz.ntmps56
  go_wp2
  obtain ⟨W, hW⟩ : ∃ W, W = w.alloc (.cells #[.pointer none, .slice none 0 0] 88) := ⟨_, rfl⟩
  have hs1 : W.heap.size = w.heap.size + 1 := by rw [hW]; simp
  have hfW : Fr (fun _ => False) w W := by rw [hW]; exact (Fr.refl _ _).alloc _
  have hbk : W.heap[w.heap.size]? = some (.cells #[.pointer none, .slice none 0 0] 88) := by rw [hW]; exact heap_alloc_new w _
  have hcells : 0 < l.length → ∃ ad, A = some ad ∧ ad.block < w.heap.size ∧ ∀ j, j < l.length → W.cell? (ad.add j) = some (.int .i64 (l.getD j 0)) := fun h0 => by
    obtain ⟨ad, h1, h2⟩ := hA h0
    have h3 := World.block_lt_of_cell? _ _ (h2 0 h0)
    rw [show (ad.add 0).block = ad.block from rfl] at h3
    exact ⟨ad, h1, h3, fun j hj => hfW.cell (h2 j hj) (by simp)⟩
  rw [← hW]
  have hbld : Bld w.heap.size (w.heap.size + 1) [] W := Bld.fresh hbk (by omega)
  clear hW hbk hA
  generalize hb0 : w.heap.size = b at *
  have hbw : Hid (w.heap.size = b) := hb0
  generalize hn : l.length = n at *
  clear hb0 hn
  go_loopw [8] (fun i wr => ∃ k : Nat, k ≤ n ∧ i = .int .i64 k ∧ Bld b (b + 1) ((l.take k).flatMap prTwo) wr ∧ Fr (BldM b (b + 1)) W wr) (fun i _ => n - (intOf i).toNat)
  case atStart => exact ⟨0, Nat.zero_le _, rfl, hbld, Fr.refl _ _⟩
  case round =>
    obtain ⟨k, hk, rfl, hbl, hfr⟩ := hrel
    by_cases hlt : k < n
    · obtain ⟨ad, rfl, hab, hcs⟩ := hcells (by omega)
      have hck := hfr.cell (hcs k hlt) (by show ¬ (_ ∨ _); rw [show (ad.add k).block = ad.block by unfold Addr.add; split <;> rfl]; omega)
      have hTk := hT k hlt
      have hxk := hb2 k hlt
      have hlen := hle k hk
      have hbs : b + 1 ≤ wr.heap.size := by have := hfr.size; omega
      clear hcells hT hbld hcs hle hb2
      generalize l.getD k 0 = x at *
      have h1 : 48 + x / 10 % 10 = ((pr1 x).toNat : Int) := pr1_ok x hxk.1 hxk.2
      have h2 : 48 + x % 10 = ((pr2 x).toNat : Int) := pr2_ok x hxk.1 hxk.2
      have htw : Hid (prTwo x = [pr1 x, pr2 x]) := rfl
      generalize pr1 x = c1 at *
      generalize pr2 x = c2 at *
      generalize (l.take k).flatMap prTwo = acc at *
      have hlen2 : acc.length + 1 ≤ 140737488355328 := by omega
      have hlen3 : (acc ++ [c1]).length + 1 ≤ 140737488355328 := by simp; omega
      clear hlen
      go_wp2_with fail
      refine (WriteByte_ok b (b + 1) acc c1 _ hbl hlen2 hbs).mono ?_
      rintro e w2 ⟨rfl, hb2, hf2⟩
      have hbs2 : b + 1 ≤ w2.heap.size := by have := hf2.size; omega
      go_wp2_with fail
      refine (WriteByte_ok b (b + 1) (acc ++ [c1]) c2 _ hb2 hlen3 hbs2).mono ?_
      rintro e w3 ⟨rfl, hb3, hf3⟩
      clear h1 h2
      go_wp2
      go_roundw
      case rel => exact ⟨k + 1, by omega, by go_num, by rw [hTk.out, htw.out]; simpa using hb3, (hfr.trans hf2).trans hf3⟩
      case measure => simp [intOf]; omega
    · have hkn : k = n := by omega
      have hEk : Hid ((l.take k).flatMap prTwo = l.flatMap prTwo) := by rw [hkn]; exact hE
      clear hcells hT hbld hkn hle hb2
      have hbs : b ≤ wr.heap.size := by have := hfr.size; omega
      generalize (l.take k).flatMap prTwo = acc at *
      go_wp2_with (go_at_call 54; refine (String_ok b (b + 1) acc _ hbl hbs).mono ?_; rintro e w2 ⟨rfl, hb2⟩)
      go_ret
      refine ⟨by rw [← hEk.out]; rfl, ?_⟩
      have h1 : Below b w W := hfW.below (by rw [hbw.out]; exact Nat.le_refl _) fun _ _ => id
      have h2 : Below b W wr := hfr.below (by omega) fun k hk => by simp; omega
      rw [hbw.out]
      exact (h1.trans h2).trans hb2
set_option maxRecDepth 100000 in
set_option maxHeartbeats 4000000 in
theorem dig_hex (l : List Int) (hl : l.length ≤ 10000000) (hx : ∀ x ∈ l, 0 ≤ x ∧ x < 256) (A : Option Addr) (c : Nat) (w : World) (hA : 0 < l.length → ∃ ad, A = some ad ∧ ∀ j, j < l.length → w.cell? (ad.add j) = some (.int .u8 (l.getD j 0))) :
    Calls Tryz.prog 62 #[.slice A l.length c] w fun e w' => e = .returned (str (l.flatMap hexTwo)) ∧ Below w.heap.size w w' := by
  have hT : ∀ k, k < l.length → Hid ((l.take (k + 1)).flatMap hexTwo = (l.take k).flatMap hexTwo ++ hexTwo (l.getD k 0)) := fun k h => by
    show _ = _
    rw [List.take_succ_eq_append_getElem h, List.flatMap_append, List.flatMap_singleton, List.getD_eq_getElem?_getD, List.getElem?_eq_getElem h]; rfl
  have hE : Hid ((l.take l.length).flatMap hexTwo = l.flatMap hexTwo) := by show _ = _; rw [List.take_length]
  have hle : ∀ k, k ≤ l.length → ((l.take k).flatMap hexTwo).length = 2 * k := fun k hk => by
    rw [List.length_flatMap, show (l.take k).map (fun x => (hexTwo x).length) = List.replicate (l.take k).length 2 from by rw [List.eq_replicate_iff]; exact ⟨by simp, fun b hb => by obtain ⟨x, _, rfl⟩ := List.mem_map.1 hb; rfl⟩]
    simp
    omega
  have hb2 : ∀ k, k < l.length → 0 ≤ l.getD k 0 ∧ l.getD k 0 < 256 := fun k hk => by
    rw [List.getD_eq_getElem?_getD, List.getElem?_eq_getElem hk]; exact hx _ (List.getElem_mem hk)
  clear hx
  go_enter Tryz.func62, Tryz.ntmps62
  go_wp2
  obtain ⟨W, hW⟩ : ∃ W, W = w.alloc (.cells #[.pointer none, .slice none 0 0] 88) := ⟨_, rfl⟩
  have hs1 : W.heap.size = w.heap.size + 1 := by rw [hW]; simp
  have hfW : Fr (fun _ => False) w W := by rw [hW]; exact (Fr.refl _ _).alloc _
  have hbk : W.heap[w.heap.size]? = some (.cells #[.pointer none, .slice none 0 0] 88) := by rw [hW]; exact heap_alloc_new w _
  have hcells : 0 < l.length → ∃ ad, A = some ad ∧ ad.block < w.heap.size ∧ ∀ j, j < l.length → W.cell? (ad.add j) = some (.int .u8 (l.getD j 0)) := fun h0 => by
    obtain ⟨ad, h1, h2⟩ := hA h0
    have h3 := World.block_lt_of_cell? _ _ (h2 0 h0)
    rw [show (ad.add 0).block = ad.block from rfl] at h3
    exact ⟨ad, h1, h3, fun j hj => hfW.cell (h2 j hj) (by simp)⟩
  rw [← hW]
  have hbld : Bld w.heap.size (w.heap.size + 1) [] W := Bld.fresh hbk (by omega)
  clear hW hbk hA
  generalize hb0 : w.heap.size = b at *
  have hbw : Hid (w.heap.size = b) := hb0
  generalize hn : l.length = n at *
  clear hb0 hn
  go_loopw [8] (fun i wr => ∃ k : Nat, k ≤ n ∧ i = .int .i64 k ∧ Bld b (b + 1) ((l.take k).flatMap hexTwo) wr ∧ Fr (BldM b (b + 1)) W wr) (fun i _ => n - (intOf i).toNat)
  case atStart => exact ⟨0, Nat.zero_le _, rfl, hbld, Fr.refl _ _⟩
  case round =>
    obtain ⟨k, hk, rfl, hbl, hfr⟩ := hrel
    by_cases hlt : k < n
    · obtain ⟨ad, rfl, hab, hcs⟩ := hcells (by omega)
      have hck := hfr.cell (hcs k hlt) (by show ¬ (_ ∨ _); rw [show (ad.add k).block = ad.block by unfold Addr.add; split <;> rfl]; omega)
      have hTk := hT k hlt
      have hxk := hb2 k hlt
      have hlen := hle k hk
      have hbs : b + 1 ≤ wr.heap.size := by have := hfr.size; omega
      clear hcells hT hbld hcs hle hb2
      generalize l.getD k 0 = x at *
      have h1 := hx1_idx x hxk.1 hxk.2
      have h2 := hx2_idx x hxk.1 hxk.2
      have h3 := hx_and15 x hxk.1 hxk.2
      have htw : Hid (hexTwo x = [hx1 x, hx2 x]) := rfl
      generalize hx1 x = c1 at *
      generalize hx2 x = c2 at *
      generalize (l.take k).flatMap hexTwo = acc at *
      have hlen2 : acc.length + 1 ≤ 140737488355328 := by omega
      have hlen3 : (acc ++ [c1]).length + 1 ≤ 140737488355328 := by simp; omega
      clear hlen
      go_wp2_with fail
      refine (WriteByte_ok b (b + 1) acc c1 _ hbl hlen2 hbs).mono ?_
      rintro e w2 ⟨rfl, hb2, hf2⟩
      have hbs2 : b + 1 ≤ w2.heap.size := by have := hf2.size; omega
      go_wp2_with fail
      refine (WriteByte_ok b (b + 1) (acc ++ [c1]) c2 _ hb2 hlen3 hbs2).mono ?_
      rintro e w3 ⟨rfl, hb3, hf3⟩
      clear h1 h2 h3
      go_wp2
      go_roundw
      case rel => exact ⟨k + 1, by omega, by go_num, by rw [hTk.out, htw.out]; simpa using hb3, (hfr.trans hf2).trans hf3⟩
      case measure => simp [intOf]; omega
    · have hkn : k = n := by omega
      have hEk : Hid ((l.take k).flatMap hexTwo = l.flatMap hexTwo) := by rw [hkn]; exact hE
      clear hcells hT hbld hkn hle hb2
      have hbs : b ≤ wr.heap.size := by have := hfr.size; omega
      generalize (l.take k).flatMap hexTwo = acc at *
      go_wp2_with (go_at_call 54; refine (String_ok b (b + 1) acc _ hbl hbs).mono ?_; rintro e w2 ⟨rfl, hb2⟩)
      go_ret
      refine ⟨by rw [← hEk.out]; rfl, ?_⟩
      have h1 : Below b w W := hfW.below (by rw [hbw.out]; exact Nat.le_refl _) fun _ _ => id
      have h2 : Below b W wr := hfr.below (by omega) fun k hk => by simp; omega
      rw [hbw.out]
      exact (h1.trans h2).trans hb2
end Go.Proofs.YtghcadbmjglidaaGreatDoor
end
section
set_option linter.unusedVariables false
namespace Go.Proofs.YtghcadbmjglidaaGreatDoor
open Go.RowKit Go.Shelf
def parts (c : UInt8) : List UInt8 → List (List UInt8)
  | [] => [[]]
  | x :: t => if x = c then [] :: parts c t else match parts c t with
    | [] => [[x]]
    | h :: r => (x :: h) :: r
theorem parts_cons (c x : UInt8) (t : List UInt8) : parts c (x :: t) = if x = c then [] :: parts c t else match parts c t with
    | [] => [[x]]
    | h :: r => (x :: h) :: r := rfl
theorem parts_not (c : UInt8) : ∀ l : List UInt8, (∀ x ∈ l, x ≠ c) → parts c l = [l]
  | [], _ => rfl
  | x :: t, h => by
    rw [parts_cons, if_neg (h x (List.mem_cons_self ..)), parts_not c t (fun y hy => h y (List.mem_cons_of_mem _ hy))]
theorem parts_at (c : UInt8) (t : List UInt8) : ∀ h : List UInt8, (∀ x ∈ h, x ≠ c) → parts c (h ++ c :: t) = h :: parts c t
  | [], _ => by show parts c (c :: t) = _; rw [parts_cons, if_pos rfl]
  | x :: h, hh => by
    rw [List.cons_append, parts_cons, if_neg (hh x (List.mem_cons_self ..)), parts_at c t h (fun y hy => hh y (List.mem_cons_of_mem _ hy))]
theorem strings_index (l : List UInt8) (c : UInt8) (w : World) :
    Calls Tryz.prog 80 #[str l, .string ⟨#[c]⟩] w fun e w' => e = .returned (.int .i64 (Lib.indexByte l c)) ∧ w' = w := by
  go_enter Tryz.func80, Tryz.ntmps80
  go_wp2_with (go_at_call 77; refine (Tryz.stringslite_Index_one _ _ _).mono ?_; rintro e w' ⟨rfl, rfl⟩; rw [show Lib.indexByte (⟨l.toArray⟩ : ByteArray).data.toList c = Lib.indexByte l c from rfl])
  go_ret
  exact ⟨rfl, rfl⟩
attribute [local go_sem] Oper.semAt_some
def leftAt (W : World) (b : Nat) : Nat := match W.cell? ⟨b, 0, none⟩ with
  | some (.string s) => s.size
  | _ => 0
theorem leftAt_of {W : World} {b : Nat} {r : List UInt8} (h : W.cell? ⟨b, 0, none⟩ = some (str r)) : leftAt W b = r.length := by unfold leftAt; rw [h]; rfl
def KpS (b0 : Nat) (W W' : World) : Prop := W'.heap[b0]? = W.heap[b0]? ∧ W'.heap[b0 + 1]? = W.heap[b0 + 1]? ∧ W'.heap[b0 + 2]? = W.heap[b0 + 2]?
set_option maxRecDepth 100000 in
set_option maxHeartbeats 2000000 in
theorem split_in (n : Nat) (hn : 1 ≤ n) (b0 L : Nat) (s : List UInt8) (hL : s.length ≤ L) (hL2 : L ≤ 1000000000) (w : World) (h0s : Boxed w b0 9 (str s)) (h0p : Boxed w (b0 + 1) 9 (.string ⟨#[38]⟩)) (h0n : Boxed w (b0 + 2) 3 (.int .i64 0)) :
    SeqBox Fence.wide n Tryz.prog 178 #[.pointer (some ⟨b0 + 1, 0, none⟩), .pointer (some ⟨b0, 0, none⟩), .pointer (some ⟨b0 + 2, 0, none⟩)] (fun x : List UInt8 => #[str x]) (KpS b0) (fun x => x.length ≤ L) (parts 38 s) b0 w := by
  intro l J Jx W hW hJ hJx hY hJ0
  have hBs : Boxed W b0 9 (str s) := (hW.block _ h0s.lt).trans h0s
  have hBp : Boxed W (b0 + 1) 9 (.string ⟨#[38]⟩) := (hW.block _ h0p.lt).trans h0p
  have hBn : Boxed W (b0 + 2) 3 (.int .i64 0) := (hW.block _ h0n.lt).trans h0n
  refine callsIn_of_wp Tryz.func178 rfl trivial ?_ rfl
  simp only [Tryz.ntmps178, List.size_toArray, List.length_cons, List.length_nil, Nat.reduceAdd, Nat.reduceSub, Array.replicate_succ, Array.replicate_zero, List.push_toArray, List.append_toArray, List.nil_append, List.cons_append]
  have cp := hBp.cell
  gi_wp2
  clear cp
  gi_loopw [7] (fun p wr => ∃ (pre : List (List UInt8)) (r : List UInt8), r.length ≤ s.length ∧ parts 38 s = pre ++ parts 38 r ∧ Boxed wr b0 9 (str r) ∧ Boxed wr (b0 + 1) 9 (.string ⟨#[38]⟩) ∧ Boxed wr (b0 + 2) 3 (.int .i64 0) ∧ J pre wr)
    (fun p wr => leftAt wr b0)
  case atStart => exact ⟨[], s, Nat.le_refl _, rfl, hBs, hBp, hBn, hJ0⟩
  case round =>
    obtain ⟨pre, r, hrl, hps, bs, bp, bn, hJr⟩ := hrel
    have cs := bs.cell
    have cp := bp.cell
    have cn := bn.cell
    have fs := bs.frozen
    rcases idx_cut 38 r with ⟨h1, h2⟩ | ⟨h, t, rfl, h2, h3⟩
    · have hq := hps.trans (by rw [parts_not 38 r h2])
      obtain ⟨fn, tmps, assign, body, hy, hR⟩ := hY pre r wr hJr (by omega)
      clear hY hps h2
      gi_wp2_with (refine ⟨trivial, ?_⟩; gi_at_call 80; refine (callsIn_wide.2 (strings_index r 38 wr)).mono ?_; rintro e w' ⟨rfl, rfl⟩; rw [h1])
      refine hR.mono ?_
      rintro e W3 (⟨rfl, hJ3, hk3⟩ | ⟨rfl, hJx3⟩)
      · gi_wp2
        go_end0
        exact ⟨⟨_, rfl⟩, .inl (by rw [hq]; exact hJ3)⟩
      · gi_wp2
        go_end0
        exact ⟨⟨_, rfl⟩, .inr ⟨pre ++ [r], by rw [hq]; exact List.prefix_refl _, hJx3⟩⟩
    · have hq := hps.trans (by rw [parts_at 38 t h h2])
      rw [List.length_append, List.length_cons] at hrl
      obtain ⟨sb, hsb⟩ : ∃ sb : ByteArray, sb = ⟨(h ++ 38 :: t).toArray⟩ := ⟨_, rfl⟩
      have hsz : sb.size = h.length + 1 + t.length := by rw [hsb]; show (h ++ 38 :: t).length = _; simp; omega
      have e1 : sb.extract 0 h.length = ⟨h.toArray⟩ := by rw [hsb, ext_list]; simp
      have e2 : sb.extract (h.length + 1) sb.size = ⟨t.toArray⟩ := by
        rw [hsb, ext_list]
        congr 2
        rw [List.take_of_length_le (by simp [ByteArray.size]; omega)]
        simp
      rw [hsz] at e2
      obtain ⟨fn, tmps, assign, body, hy, hR⟩ := hY pre h wr hJr (by omega)
      have bs' : Boxed wr b0 9 (.string sb) := by rw [hsb]; exact bs
      have lw := leftAt_of bs.cell
      have hidx : ∀ w, Calls Tryz.prog 80 #[.string sb, .string ⟨#[38]⟩] w fun e w' => e = .returned (.int .i64 (h.length : Int)) ∧ w' = w := fun w => by
        rw [hsb, ← h3]; exact strings_index _ _ _
      clear cs bs hsb h3 hY hps h2
      have cs := bs'.cell
      have b1 : (h.length : Int) ≤ (sb.size : Int) := by omega
      have b2 : (h.length : Int) + 1 ≤ (sb.size : Int) := by omega
      gi_wp2_with (refine ⟨trivial, ?_⟩; gi_at_call 80; refine (callsIn_wide.2 (hidx wr)).mono ?_; rintro e w' ⟨rfl, hw'⟩; subst hw')
      refine hR.mono ?_
      rintro e W3 (⟨rfl, hJ3, hk3⟩ | ⟨rfl, hJx3⟩)
      · have ts : Boxed W3 b0 9 (.string sb) := hk3.1.trans bs'
        have tp : Boxed W3 (b0 + 1) 9 (.string ⟨#[38]⟩) := hk3.2.1.trans bp
        have tn : Boxed W3 (b0 + 2) 3 (.int .i64 0) := hk3.2.2.trans bn
        have cs3 := ts.cell
        have cp3 := tp.cell
        have cn3 := tn.cell
        have fs3 := ts.frozen
        gi_wp2
        go_roundw
        case rel =>
          exact ⟨pre ++ [h], t, by omega, by rw [hq]; simp, ts.set _, tp.kept (grownBy_setCell' _ _ _) (by intro e; injection e with e; omega), tn.kept (grownBy_setCell' _ _ _) (by intro e; injection e with e; omega), hJ _ _ _ _ hJ3 (grownBy_setCell' _ _ _) (fun r e => by cases e; rfl)⟩
        case measure => rw [leftAt_of (ts.set (str t)).cell, lw]; simp; omega
      · gi_wp2
        refine bodyPost_ret (results_none rfl _ _ _) rfl ?_
        exact ⟨⟨_, rfl⟩, .inr ⟨pre ++ [h], by rw [hq]; exact ⟨parts 38 t, by simp⟩, hJx3⟩⟩
end Go.Proofs.YtghcadbmjglidaaGreatDoor
end
section
set_option linter.unusedVariables false
namespace Go.Proofs.YtghcadbmjglidaaGreatDoor
open Go.RowKit
theorem add_blk (a : Addr) (n : Nat) : (a.add n).block = a.block := by unfold Addr.add; split <;> rfl
set_option maxRecDepth 100000 in
set_option maxHeartbeats 4000000 in
theorem strings_Join_manyA (xs : List (List UInt8)) (sep : List UInt8) (ad : Addr) (c : Nat) (w : World) (hx : ∀ i, i < xs.length → w.cell? (ad.add i) = some (str (xs.getD i []))) (h2 : 2 ≤ xs.length) (hn : xs.length ≤ 1000000) (hs : 0 < sep.length ∧ sep.length ≤ 1000)
    (hsum : (xs.map List.length).sum ≤ 10000000000) (hg : ad.block < w.heap.size) (hc : xs.length ≤ c) :
    Calls Tryz.prog 26 #[.slice (some ad) xs.length c, str sep] w fun e w' => e = .returned (str (Uri.jn sep xs)) ∧ Below w.heap.size w w' := by
  have hO : ∀ k, k < xs.length → Hid (((xs.take (k + 1)).map List.length).sum = ((xs.take k).map List.length).sum + (xs.getD k []).length) := fun k h => sum_take xs k h
  have hle : ∀ k, ((xs.take k).map List.length).sum ≤ (xs.map List.length).sum := sum_le xs
  have hJ : ∀ k, 0 < k → k < xs.length → Hid (Uri.jn sep (xs.take (k + 1)) = Uri.jn sep (xs.take k) ++ sep ++ xs.getD k []) := fun k h0 h => jn_take sep xs k h0 h
  have hJ1 : Hid (Uri.jn sep (xs.take 1) = xs.getD 0 []) := by
    show _ = _
    match xs, h2 with
    | x :: t, _ => simp [Uri.jn]
  have hJE : Hid (Uri.jn sep (xs.take xs.length) = Uri.jn sep xs) := by show _ = _; rw [List.take_length]
  have hlen : ∀ k, (Uri.jn sep (xs.take k)).length ≤ (xs.map List.length).sum + sep.length * xs.length := fun k => by
    have h3 := Uri.jn_len sep (xs.take k)
    have h4 := hle k
    have h5 : sep.length * (xs.take k).length ≤ sep.length * xs.length := Nat.mul_le_mul_left _ (List.length_take_le' k xs)
    omega
  have hmul : sep.length * xs.length ≤ 1000000000 := by
    have := Nat.mul_le_mul hs.2 hn; omega
  have hq := tdiv_big xs.length sep.length h2 hn (by omega)
  have hS : 0 ≤ (xs.map List.length).sum := Nat.zero_le _
  obtain ⟨n, hnn⟩ : ∃ n, n = xs.length := ⟨_, rfl⟩
  have hcell : ∀ i, i < n → w.cell? (ad.add i) = some (str (xs.getD i [])) := fun i hi => hx i (by omega)
  rw [← hnn] at h2 hn hO hJ hJE hlen hmul hq hc ⊢
  clear hx hnn
  obtain ⟨f, hf⟩ : ∃ f : Nat → List UInt8, ∀ i, xs.getD i [] = f i := ⟨_, fun _ => rfl⟩
  simp only [hf] at hcell hO hJ hJ1
  clear hf
  generalize (xs.map List.length).sum = N at *
  have h0 : Hid (((xs.take 0).map List.length).sum = 0) := rfl
  obtain ⟨G, hG⟩ : ∃ G : Nat → Nat, ∀ i, ((xs.take i).map List.length).sum = G i := ⟨_, fun _ => rfl⟩
  simp only [hG] at hO hle h0
  clear hG
  obtain ⟨J, hJJ⟩ : ∃ J : Nat → List UInt8, ∀ i, Uri.jn sep (xs.take i) = J i := ⟨_, fun _ => rfl⟩
  simp only [hJJ] at hJ hJ1 hJE hlen
  clear hJJ
  generalize Uri.jn sep xs = R at *
  obtain ⟨S, hSS⟩ : ∃ S : ByteArray, S = ⟨sep.toArray⟩ := ⟨_, rfl⟩
  have hSz : S.size = sep.length := by rw [hSS]; rfl
  show Calls _ _ #[_, .string ⟨sep.toArray⟩] _ _
  rw [← hSS]
  rw [← hSz] at hs hq hmul hlen
  have HS := Lib.hid hSS
  have HSz := Lib.hid hSz
  clear hSS hSz
  obtain ⟨p, hp⟩ : ∃ p : Nat, (S.size : Int) * ((n : Int) - 1) = (p : Int) := ⟨S.size * (n - 1), by rw [Int.natCast_mul, Int.ofNat_sub (by omega)]; rfl⟩
  have hpl : p ≤ 1000000000 := by
    have h3 : (S.size : Int) * ((n : Int) - 1) ≤ (S.size : Int) * (n : Int) := Int.mul_le_mul_of_nonneg_left (by omega) (by omega)
    have h4 : ((S.size * n : Nat) : Int) = (S.size : Int) * (n : Int) := Int.natCast_mul _ _
    omega
  have z0 : IntKind.i64.wrap ((n : Int) - 1) = (n : Int) - 1 := IntWalk.i64_in _ (by omega)
  have z1 : IntKind.i64.wrap ((S.size : Int) * ((n : Int) - 1)) = (p : Int) := by rw [hp]; exact IntWalk.i64_in _ (by omega)
  have z2 : IntKind.i64.wrap (0 + (p : Int)) = (p : Int) := by rw [Int.zero_add]; exact IntWalk.i64_in _ (by omega)
  have hc1 : ¬ c = 1 := by omega
  go_enter Tryz.func26, Tryz.ntmps26
  go_wp2
  go_loop [5, 41] (fun v i => ∃ k : Nat, k ≤ n ∧ i = .int .i64 k ∧ v = .int .i64 ((p + G k : Nat) : Int)) (fun _ i => n - (intOf i).toNat)
  case atStart => exact ⟨0, Nat.zero_le _, rfl, by rw [h0.out]; rfl⟩
  case round =>
    obtain ⟨k, hk, rfl, rfl⟩ := hrel
    have hlk := hle k
    have hle1 := hle (k + 1)
    clear hle hq z0 z1 z2 hp
    by_cases hlt : k < n
    · have hck := hcell k hlt
      have hok := hO k hlt
      have hl2 : G k + (f k).length ≤ N + (f k).length := by omega
      have hxl : (f k).length ≤ 10000000000 := by have := hle1; have := hok.out; omega
      clear hcell hO h0 hJ hJ1 hJE hlen
      have hz : (⟨(f k).toArray⟩ : ByteArray).size = (f k).length := rfl
      generalize f k = x at *
      go_wp2
      go_round
      case rel => exact ⟨k + 1, by omega, by go_num, by rw [hok.out]; first | rfl | (push_cast; congr 1; omega)⟩
      case measure => simp [intOf]; omega
    · clear hO h0 hle1
      have c0 : w.cell? ad = some (str (f 0)) := hcell 0 (by omega)
      have hgr := Grow_ok w.heap.size (p + G k) (w.alloc (.cells #[.pointer none, .slice none 0 0] 88)) (heap_alloc_new w _) (by omega)
      have hF0 : Fr (fun k => w.heap.size ≤ k) w (w.alloc (.cells #[.pointer none, .slice none 0 0] 88)) := (Fr.refl _ _).alloc _
      have hW0 : (w.alloc (.cells #[.pointer none, .slice none 0 0] 88)).heap.size = w.heap.size + 1 := by simp
      have hl0 : (f 0).length ≤ 20000000000 := by have h5 := hlen 1; rw [hJ1.out] at h5; omega
      generalize hT : p + G k = T at *
      go_wp2_with (first
        | (go_at_call 52; refine hgr.mono ?_; rintro e w2 ⟨rfl, hB2, hF2⟩
           have c2 : w2.cell? ad = some (str (f 0)) := Fr.cell (Fr.trans hF0 hF2) c0 (by show ¬ w.heap.size ≤ ad.block; omega))
        | (go_at_call 53; refine (WriteString_ok w.heap.size (w.heap.size + 1) [] (f 0) w2 hB2 (by simp; omega) (by have := hF2.size; omega)).mono ?_; rintro e w3 ⟨⟨nw, rfl⟩, hB3, hF3⟩))
      rw [List.nil_append, ← hJ1.out] at hB3
      have hFr3 : Fr (fun k => w.heap.size ≤ k) w w3 := Fr.then_ (Fr.trans hF0 hF2) hF3 fun k _ h => by rcases h with h | h <;> omega
      clear hB2 hF2 hF3 c2 hgr hF0 c0 hT hJ1 hl0 hlk
      go_loopw [65] (fun i wr => ∃ q : Nat, q + 1 ≤ n ∧ i = .int .i64 q ∧ Bld w.heap.size (w.heap.size + 1) (J (q + 1)) wr ∧ Fr (fun k => w.heap.size ≤ k) w wr) (fun i _ => n - (intOf i).toNat)
      case atStart => exact ⟨0, by omega, rfl, hB3, hFr3⟩
      case round =>
        obtain ⟨q, hq1, rfl, hBq, hFq⟩ := hrel
        have hSq := hBq.lt
        clear hB3 hFr3
        by_cases hlt : q + 1 < n
        · have cq' := hFq.cell (hcell (q + 1) hlt) (by show ¬ w.heap.size ≤ (ad.add (q + 1)).block; rw [add_blk]; omega)
          have cq : wr.cell? ⟨ad.block, ad.off + 1 + q, none⟩ = some (str (f (q + 1))) := by
            rw [show ad.add (q + 1) = ⟨ad.block, ad.off + 1 + q, none⟩ by simp only [Addr.add, Nat.add_eq_zero_iff]; rw [if_neg (by omega)]; congr 1; omega] at cq'
            exact cq'
          clear cq'
          have hJq := hJ (q + 1) (by omega) hlt
          have hlq := hlen (q + 2)
          rw [hJq.out, List.length_append, List.length_append] at hlq
          clear hcell hJ hJE hlen
          have e1 : 1 + q = q + 1 := by omega
          generalize f (q + 1) = x at *
          generalize J (q + 1) = acc at *
          have hws := WriteString_ok w.heap.size (w.heap.size + 1) acc sep wr hBq (by have := HSz.out; omega) hSq
          rw [← HS.out] at hws
          go_wp2_with (first
            | (go_at_call 53; refine hws2.mono ?_; clear hws2; rintro e w5 ⟨⟨nw, rfl⟩, hB5, hF5⟩)
            | (go_at_call 53; refine hws.mono ?_; clear hws; rintro e w4 ⟨⟨nw, rfl⟩, hB4, hF4⟩
               have hws2 := WriteString_ok w.heap.size (w.heap.size + 1) (acc ++ sep) x w4 hB4 (by have := HSz.out; simp; omega) hB4.lt))
          go_roundw
          case rel => exact ⟨q + 1, by omega, by go_num, by rw [hJq.out]; exact hB5, Fr.then_ (Fr.then_ hFq hF4 fun _ _ h => by rcases h with h | h <;> omega) hF5 fun _ _ h => by rcases h with h | h <;> omega⟩
          case measure => simp [intOf]; omega
        · have hqn : q + 1 = n := by omega
          rw [hqn, hJE.out] at hBq
          clear hcell hJ hJE hlen
          have hst := String_ok w.heap.size (w.heap.size + 1) R wr hBq (by omega)
          go_wp2_with (go_at_call 54; refine hst.mono ?_; rintro e w4 ⟨rfl, hb4⟩)
          go_ret
          exact ⟨rfl, (hFq.below (Nat.le_refl _) fun k hk => by omega).trans hb4⟩
theorem strings_Join_oneA (x sep : List UInt8) (ad : Addr) (c : Nat) (w : World) (hx : w.cell? ad = some (str x)) :
    Calls Tryz.prog 26 #[.slice (some ad) 1 c, str sep] w fun e w' => e = .returned (str x) ∧ Below w.heap.size w w' := by
  go_enter Tryz.func26, Tryz.ntmps26
  go_wp2
  go_ret
  exact ⟨rfl, Below.refl _ _⟩
theorem strings_JoinA (xs : List (List UInt8)) (sep : List UInt8) (A : Option Addr) (c : Nat) (w : World) (hx : 0 < xs.length → ∃ ad, A = some ad ∧ ∀ i, i < xs.length → w.cell? (ad.add i) = some (str (xs.getD i []))) (hn : xs.length ≤ 1000000) (hs : 0 < sep.length ∧ sep.length ≤ 1000)
    (hsum : (xs.map List.length).sum ≤ 10000000000) (hc : xs.length ≤ c) :
    Calls Tryz.prog 26 #[.slice A xs.length c, str sep] w fun e w' => e = .returned (str (Uri.jn sep xs)) ∧ Below w.heap.size w w' := by
  by_cases h2 : 2 ≤ xs.length
  · obtain ⟨ad, rfl, hc2⟩ := hx (by omega)
    have := World.block_lt_of_cell? _ _ (hc2 0 (by omega))
    rw [add_blk] at this
    exact strings_Join_manyA xs sep ad c w hc2 h2 hn hs hsum this hc
  · rcases xs with _ | ⟨x, _ | ⟨y, t⟩⟩
    · exact strings_Join_none A c sep w
    · obtain ⟨ad, rfl, hc2⟩ := hx (by simp)
      have := strings_Join_oneA x sep ad c w (hc2 0 (by simp))
      rw [Uri.jn_one]
      exact this
    · simp at h2
end Go.Proofs.YtghcadbmjglidaaGreatDoor
end
section
set_option linter.unusedVariables false
namespace Go.Proofs.YtghcadbmjglidaaGreatDoor
open Go.RowKit
def lowS : ByteArray := ⟨#[97, 98, 99, 100, 101, 102, 103, 104, 105, 106, 107, 108, 109, 110, 111, 112, 113, 114, 115, 116, 117, 118, 119, 120, 121, 122]⟩
theorem low_size : lowS.size = 26 := rfl
theorem low_at (k : Nat) (h : k < lowS.size) : lowS[k] = (97 + k).toUInt8 := by
  have key : ∀ i : Fin 26, lowS[i.val]'(i.isLt) = (97 + i.val).toUInt8 := by decide +kernel
  exact key ⟨k, h⟩
def upT (k : Nat) : List UInt8 := (List.range k).map fun i => (65 + i).toUInt8
theorem upT_succ (k : Nat) : upT (k + 1) = upT k ++ [(65 + k).toUInt8] := by unfold upT; rw [List.range_succ, List.map_append]; rfl
theorem upT_len (k : Nat) : (upT k).length = k := by simp [upT]
theorem b_of (n k : Nat) (h : n + k < 256) : ((n + k).toUInt8.toNat : Int) = n + k := by rw [Nat.toUInt8_eq, UInt8.toNat_ofNat']; omega
set_option maxRecDepth 100000 in
set_option maxHeartbeats 4000000 in
theorem to_upper (w : World) :
    Calls Tryz.prog 47 #[.string lowS] w fun e w' => e = .returned (str (upT 26)) ∧ Below w.heap.size w w' := by
  have hz := low_size
  have hat := fun k h => low_at k h
  go_enter Tryz.func47, Tryz.ntmps47
  go_wp2
  go_loop [3, 4, 5] (fun a b i => ∃ k : Nat, k ≤ 26 ∧ i = .int .i64 k ∧ a = .bool true ∧ b = .bool (decide (0 < k))) (fun _ _ i => 26 - (intOf i).toNat)
  case atStart => exact ⟨0, by omega, rfl, rfl, rfl⟩
  case round =>
    obtain ⟨k, hk, rfl, rfl, rfl⟩ := hrel
    by_cases hlt : k < 26
    · have hck := hat k (by omega)
      have hb := b_of 97 k (by omega)
      clear hat
      generalize (97 + k).toUInt8 = c at *
      have d1 : decide ((c.toNat : Int) < 128) = true := decide_eq_true (by omega)
      by_cases h0 : 0 < k
      · have d0 : decide (0 < k) = true := decide_eq_true h0
        have dn : decide (0 < k + 1) = true := decide_eq_true (by omega)
        rw [d0]
        go_wp2
        go_round
        case rel => exact ⟨k + 1, by omega, by go_num, rfl, by rw [dn]⟩
        case measure => simp [intOf]; omega
      · obtain rfl : k = 0 := by omega
        go_wp2
        go_round
        case rel => exact ⟨1, by omega, rfl, rfl, rfl⟩
        case measure => simp [intOf]
    · obtain rfl : k = 26 := by omega
      clear hlt hk
      have hgr := Grow_ok w.heap.size 26 (w.alloc (.cells #[.pointer none, .slice none 0 0] 88)) (heap_alloc_new w _) (by omega)
      have hF0 : Fr (fun k => w.heap.size ≤ k) w (w.alloc (.cells #[.pointer none, .slice none 0 0] 88)) := (Fr.refl _ _).alloc _
      go_wp2_with (go_at_call 52; refine hgr.mono ?_; rintro e w2 ⟨rfl, hB2, hF2⟩)
      have hFr := Lib.hid (Fr.trans hF0 hF2)
      have hB := Lib.hid hB2
      clear hgr hF0 hB2 hF2
      go_loopw [8, 9] (fun p i wr => ∃ k : Nat, k ≤ 26 ∧ i = .int .i64 k ∧ p = .int .i64 k ∧ Hid (Bld w.heap.size (w.heap.size + 1) (upT k) wr) ∧ Hid (Fr (fun k => w.heap.size ≤ k) w wr)) (fun _ i _ => 26 - (intOf i).toNat)
      case atStart => exact ⟨0, by omega, rfl, rfl, hB, hFr⟩
      case round =>
        obtain ⟨k, hk, rfl, rfl, hBk, hFk⟩ := hrel
        clear hB hFr
        by_cases hlt : k < 26
        · have hsnd := Lib.hid (upT_succ k)
          have hul := upT_len k
          have hck := hat k (by omega)
          have hb := b_of 97 k (by omega)
          have hu := b_of 65 k (by omega)
          clear hat
          obtain ⟨acc, hacc, hBa, hla⟩ : ∃ acc, Hid (acc = upT k) ∧ Bld w.heap.size (w.heap.size + 1) acc wr ∧ acc.length = k := ⟨_, rfl, hBk.out, upT_len k⟩
          have hws := WriteByte_ok w.heap.size (w.heap.size + 1) acc (65 + k).toUInt8 wr hBa (by omega) hBa.lt
          clear hla hBa hBk
          generalize (97 + k).toUInt8 = c at *
          generalize (65 + k).toUInt8 = C at *
          have e1 : (c.toNat : Int) - 32 = C.toNat := by omega
          have e2 : 97 ≤ (c.toNat : Int) ∧ (c.toNat : Int) ≤ 122 := by omega
          clear hb hu
          go_wp2_with (go_at_call 82; refine hws.mono ?_; rintro e w3 ⟨rfl, hB3, hF3⟩; have HB3 := Lib.hid (show Bld _ _ (upT (k + 1)) _ by rw [hsnd.out, ← hacc.out]; exact hB3); have HF3 := Lib.hid (Fr.then_ hFk.out hF3 fun _ _ h => by rcases h with h | h <;> omega); clear hB3 hF3)
          go_roundw
          case rel => exact ⟨k + 1, by omega, by go_num, by go_num, HB3, HF3⟩
          case measure => simp [intOf]; omega
        · obtain rfl : k = 26 := by omega
          have hst := String_ok w.heap.size (w.heap.size + 1) (upT 26) wr hBk.out (by have := hFk.out.size; omega)
          clear hat
          go_wp2_with (go_at_call 54; refine hst.mono ?_; rintro e w4 ⟨rfl, hb4⟩)
          go_ret
          exact ⟨rfl, (hFk.out.below (Nat.le_refl _) fun k hk => by omega).trans hb4⟩
end Go.Proofs.YtghcadbmjglidaaGreatDoor
end
section
set_option linter.unusedVariables false
namespace Go.Proofs.YtghcadbmjglidaaGreatDoor
open Go.RowKit
set_option maxHeartbeats 1000000 in
theorem or_int (l : List Int) (ad : Addr) (c : Nat) (w : World) (hl : l.length ≤ 1000000000) (hc : ∀ i, i < l.length → w.cell? (ad.add i) = some (.int .i64 (l.getD i 0))) :
    Calls Tryz.prog 151 #[.slice (some ad) l.length c] w fun e w' => e = .returned (.int .i64 (orZ l)) ∧ w = w' := by
  have hO := fun k h => Lib.hid (orZ_drop l k h)
  have hE : Hid (orZ (l.drop l.length) = 0) := by show _ = _; rw [List.drop_length]; rfl
  have h0 : Hid (orZ l = orZ (l.drop 0)) := rfl
  obtain ⟨n, hn⟩ : ∃ n, n = l.length := ⟨_, rfl⟩
  rw [← hn] at hl hc hO hE ⊢
  clear hn
  obtain ⟨f, hf⟩ : ∃ f : Nat → Int, ∀ i, l.getD i 0 = f i := ⟨_, fun _ => rfl⟩
  simp only [hf] at hc hO
  clear hf
  go_enter Tryz.func151, Tryz.ntmps151
  go_wp2
  go_loop [8] (fun i => ∃ k : Nat, k ≤ n ∧ i = .int .i64 k ∧ Hid (orZ l = orZ (l.drop k))) (fun i => n - (intOf i).toNat)
  case atStart => exact ⟨0, Nat.zero_le _, rfl, h0⟩
  case round =>
    obtain ⟨k, hk, rfl, hr⟩ := hrel
    by_cases hlt : k < n
    · have hck := hc k hlt
      have hok := hO k hlt
      clear hc hO
      by_cases hz : f k = 0
      · have hz1 : (f k != 0) = false := by simp [hz]
        have Hz := Lib.hid hz
        clear hz
        go_wp2
        go_round
        case rel => exact ⟨k + 1, by omega, by go_num, by show _ = _; rw [hr.out, hok.out, if_pos Hz.out]⟩
        case measure => simp [intOf]; omega
      · have hz1 : (f k != 0) = true := by simp [hz]
        have Hz := Lib.hid hz
        clear hz
        go_wp2
        go_ret
        exact ⟨by rw [hr.out, hok.out, if_neg Hz.out]; rfl, rfl⟩
    · have hkn : Hid (k = n) := by show _ = _; omega
      clear hc
      go_wp2
      go_ret
      exact ⟨by rw [hr.out, hkn.out, hE.out]; rfl, rfl⟩
theorem or_int2 (fa fb : Int) (w : World) : Calls Tryz.prog 151 #[.slice (some ⟨w.heap.size, 0, none⟩) 2 2] (w.alloc (.cells #[.int .i64 fa, .int .i64 fb] 3)).drew fun e w' => e = .returned (.int .i64 (orZ [fa, fb])) ∧ (w.alloc (.cells #[.int .i64 fa, .int .i64 fb] 3)).drew = w' :=
  or_int [fa, fb] _ _ _ (by simp) fun i hi => by
    match i, hi with
    | 0, _ => simp [Addr.add]
    | 1, _ => simp [Addr.add]
theorem nan_str (x : List UInt8) (w : World) : Calls Tryz.prog 144 #[str x] w fun e w' => e = .returned (.bool false) ∧ w = w' := by
  go_enter Tryz.func144, Tryz.ntmps144
  go_wp2
  go_ret
  exact ⟨rfl, rfl⟩
theorem cmp_str (x y : List UInt8) (w : World) : Calls Tryz.prog 152 #[str x, str y] w fun e w' => e = .returned (.int .i64 (Uri.cmpS x y)) ∧ w = w' := by
  have h1 : ∀ q, Op.bytesLess x y = q → Hid (Uri.lt x y = q) := fun q h => h
  go_enter Tryz.func152, Tryz.ntmps152
  go_wp2_with (first
    | (go_at_call_of 144 (str x); refine (nan_str x _).mono ?_; rintro e w2 ⟨rfl, rfl⟩)
    | (go_at_call_of 144 (str y); refine (nan_str y _).mono ?_; rintro e w2 ⟨rfl, rfl⟩))
  all_goals
    clear h1
    go_ret
    refine ⟨?_, rfl⟩
    unfold Uri.cmpS Uri.gtB Uri.lt
    simp_all
theorem cmpP_or (a b : Uri.Pr) : orZ [Uri.cmpS a.1 b.1, Uri.cmpS a.2 b.2] = Uri.cmpP a b := by
  unfold Uri.cmpP
  by_cases h : Uri.cmpS a.1 b.1 = 0
  · by_cases k : Uri.cmpS a.2 b.2 = 0 <;> simp [orZ, h, k]
  · simp [orZ, h]
def encP (p : Uri.Pr) : List Value := [str p.1, str p.2]
set_option maxRecDepth 100000 in
set_option maxHeartbeats 4000000 in
theorem canon_cmp (a b : Uri.Pr) (W : World) :
    Calls Tryz.prog 150 #[.agg #[str a.1, str a.2], .agg #[str b.1, str b.2]] W fun e w' => e = .returned (.int .i64 (Uri.cmpP a b)) ∧ ∃ q os', w' = Sort.grow (W.drewN q) os' := by
  have hP := Lib.hid (cmpP_or a b)
  obtain ⟨a1, a2⟩ := a
  obtain ⟨b1, b2⟩ := b
  simp only at hP ⊢
  generalize Uri.cmpP (a1, a2) (b1, b2) = r at *
  obtain ⟨r1, h1⟩ : ∃ r1, Uri.cmpS a1 b1 = r1 := ⟨_, rfl⟩
  obtain ⟨r2, h2⟩ : ∃ r2, Uri.cmpS a2 b2 = r2 := ⟨_, rfl⟩
  have e1 := fun w => cmp_str a1 b1 w
  have e2 := fun w => cmp_str a2 b2 w
  rw [h1] at e1
  rw [h2] at e2
  rw [h1, h2] at hP
  clear h1 h2
  have e3 := fun w => or_int2 r1 r2 w
  rw [hP.out] at e3
  clear hP
  go_enter Tryz.func150, Tryz.ntmps150
  go_wp2
  have c1 : ((W.alloc (.cells #[str a1, str a2] 185)).alloc (.cells #[str b1, str b2] 185)).cell? ⟨W.heap.size, 0, none⟩ = some (str a1) := by simp
  have c2 : ((W.alloc (.cells #[str a1, str a2] 185)).alloc (.cells #[str b1, str b2] 185)).cell? ⟨W.heap.size, 1, none⟩ = some (str a2) := by simp
  have c3 : ((W.alloc (.cells #[str a1, str a2] 185)).alloc (.cells #[str b1, str b2] 185)).cell? ⟨W.heap.size + 1, 0, none⟩ = some (str b1) := by simp
  have c4 : ((W.alloc (.cells #[str a1, str a2] 185)).alloc (.cells #[str b1, str b2] 185)).cell? ⟨W.heap.size + 1, 1, none⟩ = some (str b2) := by simp
  have hG : Hid (∃ os, (W.alloc (.cells #[str a1, str a2] 185)).alloc (.cells #[str b1, str b2] 185) = Sort.grow W os) := ⟨_, by rw [Sort.alloc_eq_grow, Sort.alloc_eq_grow, Sort.grow_grow]⟩
  generalize (W.alloc (.cells #[str a1, str a2] 185)).alloc (.cells #[str b1, str b2] 185) = V at *
  generalize W.heap.size = p at *
  go_region_held3 (fun w' => w'.cell? ⟨p, 0, none⟩ = some (str a1) ∧ w'.cell? ⟨p, 1, none⟩ = some (str a2) ∧ w'.cell? ⟨p + 1, 0, none⟩ = some (str b1) ∧ w'.cell? ⟨p + 1, 1, none⟩ = some (str b2)) (go_keep)
    (first
    | (go_at_call_of 152 (str a1); refine (e1 _).mono ?_; rintro e w2 ⟨rfl, rfl⟩)
    | (go_at_call_of 152 (str a2); refine (e2 _).mono ?_; rintro e w2 ⟨rfl, rfl⟩)
    | (go_at_call 151; refine (e3 _).mono ?_; rintro e w2 ⟨rfl, rfl⟩))
  all_goals
    go_wp2
    go_ret
    obtain ⟨os, rfl⟩ := hG.out
    exact ⟨rfl, 1, os ++ #[.cells #[.int .i64 r1, .int .i64 r2] 3], by rw [Sort.alloc_eq_grow, Sort.grow_grow]; rfl⟩
def pcs (ps : List Uri.Pr) : List Value := ps.flatMap encP
theorem pcs_snoc (ps : List Uri.Pr) (p : Uri.Pr) : pcs (ps ++ [p]) = pcs ps ++ encP p := by simp [pcs]
theorem encP_cell (p : Uri.Pr) : ∀ v ∈ encP p, v.oneCell' = true := by
  intro v hv; simp [encP] at hv; rcases hv with rfl | rfl <;> rfl
theorem pcs_get : ∀ (ps : List Uri.Pr) (j : Nat), j < ps.length → (pcs ps)[j * 2]? = some (str (ps.getD j ([], [])).1) ∧ (pcs ps)[j * 2 + 1]? = some (str (ps.getD j ([], [])).2)
  | p :: t, 0, _ => ⟨rfl, rfl⟩
  | p :: t, j + 1, h => by
    have ih := pcs_get t j (by simpa using h)
    have e : pcs (p :: t) = str p.1 :: str p.2 :: pcs t := rfl
    rw [e, show (j + 1) * 2 = j * 2 + 1 + 1 by omega]
    simp only [List.getElem?_cons_succ, List.getD_cons_succ]
    exact ih
def PRow (w : World) (A : Option Addr) (ps : List Uri.Pr) : Prop :=
  0 < ps.length → ∃ g o, A = some ⟨g, o, none⟩ ∧ g < w.heap.size ∧ ∀ j, j < ps.length → w.cell? ⟨g, o + j * 2, none⟩ = some (str (ps.getD j ([], [])).1) ∧ w.cell? ⟨g, o + j * 2 + 1, none⟩ = some (str (ps.getD j ([], [])).2)
def PVal (w : World) (v : Value) (ps : List Uri.Pr) : Prop := ∃ A c, v = .slice A ps.length c ∧ ps.length ≤ c ∧ PRow w A ps
theorem PRow.fr {M : Nat → Prop} {w w' : World} {A : Option Addr} {ps : List Uri.Pr} (h : PRow w A ps) (hf : Fr M w w') (hM : ∀ k, k < w.heap.size → ¬ M k) : PRow w' A ps := fun h0 => by
  obtain ⟨g, o, hA, hg, hc⟩ := h h0
  exact ⟨g, o, hA, Nat.lt_of_lt_of_le hg hf.size, fun j hj => ⟨hf.cell (hc j hj).1 (hM g hg), hf.cell (hc j hj).2 (hM g hg)⟩⟩
theorem PVal.fr {M : Nat → Prop} {w w' : World} {v : Value} {ps : List Uri.Pr} (h : PVal w v ps) (hf : Fr M w w') (hM : ∀ k, k < w.heap.size → ¬ M k) : PVal w' v ps := by
  obtain ⟨A, c, hv, hc, hr⟩ := h
  exact ⟨A, c, hv, hc, hr.fr hf hM⟩
theorem flat_pcs (ps : List Uri.Pr) (t : Nat) (ht : t < ps.length * 2) : (pcs ps)[t]? = some (Sort.flatK encP 2 ps.toArray)[t]! := by
  rw [Sort.get_flatK encP 2 ps.toArray t (by simpa using ht)]
  have hj : t / 2 < ps.length := by omega
  have h := pcs_get ps (t / 2) hj
  have hd : ps.toArray[t / 2]! = ps.getD (t / 2) ([], []) := by
    rw [getElem!_pos ps.toArray (t / 2) (by simpa using hj)]
    simp [List.getD_eq_getElem?_getD, List.getElem?_eq_getElem hj]
  rw [hd]
  rcases Nat.mod_two_eq_zero_or_one t with hm | hm
  · have e : t = t / 2 * 2 := by omega
    rw [hm]
    conv => lhs; rw [e]
    exact h.1
  · have e : t = t / 2 * 2 + 1 := by omega
    rw [hm]
    conv => lhs; rw [e]
    exact h.2
theorem Fr.sortWorld {w : World} {g n : Nat} {d : Array Uri.Pr} {os : Array Obj} {M : Nat → Prop} (hM : M g) : Fr M w (sortWorldK encP 2 w g 0 n d os) := by
  refine ⟨rfl, rfl, rfl, size_sortWorldK_c encP 2 w g 0 n d os, fun k hk hn => ?_⟩
  have hne : g ≠ k := fun e => hn (e ▸ hM)
  unfold sortWorldK Sort.putRowK
  rw [Sort.heap_grow_old _ _ (by simpa using hk)]
  simp [Sort.putRow, Sort.mapBlock, Sort.ahead, Array.getElem?_modify, hne]
theorem sort_pairs (es : List Uri.Pr) (base : Nat) (v : Value) (w : World) (hown : w.ownsRow base 185 2 v es.length (pcs es)) (hsz : es.length < 4611686018427387904) :
    Calls Tryz.prog 149 #[v, .func (.func 150) #[] #[]] w fun e w' => e = .returned (.tuple #[]) ∧ Fr (fun k => base ≤ k) w w' ∧ PVal w' v (Uri.sorted es) := by
  have hlen := Uri.sorted_length es
  have eg : ∀ args w, (callFunc 150 args).run Tryz.prog w = .ok (.enter 150 args) w := enters_of Tryz.func150 (by kernel_rfl) rfl
  rcases hown.2 with ⟨rfl, h0⟩ | ⟨g, cap, cur, rfl, hg, hh, hcap, _⟩
  · obtain rfl : es = [] := List.eq_nil_of_length_eq_zero h0
    have hcon := AnyF.slices_SortFunc_none Tryz.sortPair none 0 (.func (.func 150) #[] #[]) w
    change Calls Tryz.prog 149 _ _ _ at hcon
    refine hcon.mono ?_
    rintro e w' ⟨rfl, rfl⟩
    exact ⟨rfl, Fr.refl _ _, none, 0, by rw [hlen]; rfl, by rw [hlen]; exact Nat.le_refl _, fun h => by rw [hlen] at h; simp at h⟩
  · have hH : Sort.HoldsK encP 2 w g 0 es.toArray := fun j hj => by
      rw [Sort.size_flatK] at hj
      have c1 := hown.cells (g := g) rfl j _ (flat_pcs es j (by simpa using hj))
      rw [addr_add0] at c1
      rw [Nat.zero_add]
      exact ⟨c1, Lib.frozen_of_heap hh j⟩
    have hcon := AnyQ.slices_SortFunc_total Tryz.sortPair 2 Tryz.isAgg185 Tryz.sizeOf185 encP (fun _ => rfl) (fun x v hv => encP_cell x v hv) Uri.cmpP Uri.swo 150 #[] g 0 cap es.toArray w eg (fun _ _ _ _ x y => canon_cmp x y _) hH (block_lt hh) (by simpa using hsz) Uri.parts
    change Calls Tryz.prog 149 _ _ _ at hcon
    rw [List.size_toArray] at hcon
    refine hcon.mono ?_
    rintro e w' ⟨rfl, n, os, rfl⟩
    have hS := holdsK_sortWorldK_c encP 2 w g 0 es.toArray (Uri.sorted es).toArray n os hH (block_lt hh) (by simpa using hlen)
    change Fr (fun k => base ≤ k) w (sortWorldK encP 2 w g 0 n (Uri.sorted es).toArray os) |> fun X => _ ∧ X ∧ PVal (sortWorldK encP 2 w g 0 n (Uri.sorted es).toArray os) _ _
    refine ⟨rfl, Fr.sortWorld hg, some ⟨g, 0, none⟩, cap, by rw [hlen], by rw [hlen]; exact hcap, fun hp => ⟨g, 0, rfl, Nat.lt_of_lt_of_le (block_lt hh) (size_sortWorldK_c encP 2 w g 0 n _ os), fun j hj => ?_⟩⟩
    have f1 := flat_pcs (Uri.sorted es) (j * 2) (by omega)
    have f2 := flat_pcs (Uri.sorted es) (j * 2 + 1) (by omega)
    rw [(pcs_get (Uri.sorted es) j hj).1] at f1
    rw [(pcs_get (Uri.sorted es) j hj).2] at f2
    have s1 := (hS (j * 2) (by rw [Sort.size_flatK]; simp; omega)).1
    have s2 := (hS (j * 2 + 1) (by rw [Sort.size_flatK]; simp; omega)).1
    rw [← Option.some.inj f1] at s1
    rw [← Option.some.inj f2] at s2
    exact ⟨s1, by rw [Nat.add_assoc]; exact s2⟩
end Go.Proofs.YtghcadbmjglidaaGreatDoor
end
section
set_option linter.unusedVariables false
namespace Go.Proofs.YtghcadbmjglidaaGreatDoor
open Go.RowKit
def zs (m : List Nat) : Nat := (119 - m.length % 64) % 64
def zpad (m : List Nat) (k : Nat) : List Nat := m ++ (128 :: List.replicate k 0)
theorem zpad_len (m : List Nat) (k : Nat) : (zpad m k).length = m.length + 1 + k := by simp [zpad]; omega
theorem zpad_succ (m : List Nat) (k : Nat) : zpad m k ++ [0] = zpad m (k + 1) := by
  unfold zpad
  rw [List.append_assoc, List.cons_append, ← List.replicate_succ']
def bitLen (n : Nat) : Nat := n * 8 % 18446744073709551616
def lenBytes (n : Nat) (k : Nat) : List Nat := (List.range k).map fun j => bitLen n / 2 ^ (56 - 8 * j) % 256
theorem lenBytes_succ (n k : Nat) : lenBytes n k ++ [bitLen n / 2 ^ (56 - 8 * k) % 256] = lenBytes n (k + 1) := by
  unfold lenBytes
  rw [List.range_succ, List.map_append]
  rfl
def padded (m : List Nat) (k : Nat) : List Nat := zpad m (zs m) ++ lenBytes m.length k
theorem padded_len (m : List Nat) (k : Nat) : (padded m k).length = m.length + 1 + zs m + k := by
  rw [padded, List.length_append, zpad_len, lenBytes, List.length_map, List.length_range]
theorem padded_succ (m : List Nat) (k : Nat) : padded m k ++ [bitLen m.length / 2 ^ (56 - 8 * k) % 256] = padded m (k + 1) := by
  rw [padded, padded, List.append_assoc, lenBytes_succ]
def wbytes (x : Nat) : List Nat := [x / 16777216 % 256, x / 65536 % 256, x / 256 % 256, x % 256]
def sumBytes (ws : List Nat) : List Nat := ws.flatMap wbytes
def shaFin (h0 : Sha.V) (m : List Nat) : Sha.V := hb h0 (padded m 8) ((padded m 8).length / 64)
theorem owns_down {w : World} {b : Nat} {e : TypeId} {s : Nat} {v : Value} {n : Nat} {xs : List Value} (h : w.ownsRow (b + 1) e s v n xs) : w.ownsRow b e s v n xs :=
  ⟨h.1, h.2.imp id fun ⟨g, cap, cur, e, hb, rest⟩ => ⟨g, cap, cur, e, by omega, rest⟩⟩
theorem vl_lt {v : Sha.V} (h : VOk v) : ∀ x ∈ vl v, x < Sha.M := by
  intro x hx
  simp only [vl, List.mem_cons, List.not_mem_nil, or_false] at hx
  rcases hx with rfl | rfl | rfl | rfl | rfl | rfl | rfl | rfl
  all_goals first | exact h.a | exact h.b | exact h.c | exact h.d | exact h.e | exact h.f | exact h.g | exact h.h
structure SmS (h0 : Sha.V) (w : World) (M : List Nat) (W : World) : Prop where
  st : SSt h0 149 w.heap.size M W
  lt : w.heap.size < W.heap.size
  fr : Fr (fun _ => False) w W
theorem SmS.cell {h0 : Sha.V} {w : World} {M : List Nat} {W : World} (h : SmS h0 w M W) : W.cell? ⟨w.heap.size, 72, none⟩ = some (.int .u64 M.length) := by
  obtain ⟨blk, hB, hH⟩ := h.st
  exact (cell_of_row _ _ 72 _ _ _ hH).trans (by rw [List.getElem?_toArray]; exact stc_n h0 M blk hB.len)
theorem SmS.add1 {h0 : Sha.V} (hv : VOk h0) {w : World} {M : List Nat} {W : World} (h : SmS h0 w M W) (x : Nat) (hx : x < 256) (hl : M.length < 2 ^ 61) (T : TypeId) :
    Calls Tryz.prog 107 #[.pointer (some ⟨w.heap.size, 0, none⟩), .slice (some ⟨W.heap.size, 0, none⟩) 1 1] (W.alloc (.cells #[.int .u8 (x : Int)] T)) fun e w' => e = .returned (.tuple #[]) ∧ SmS h0 w (M ++ [x]) w' := by
  have hlt := h.lt
  have hw : (W.alloc (.cells #[.int .u8 (x : Int)] T)).heap.size = W.heap.size + 1 := by simp
  have hst : SSt h0 149 w.heap.size M (W.alloc (.cells #[.int .u8 (x : Int)] T)) := by
    obtain ⟨blk, hB, hH⟩ := h.st
    exact ⟨blk, hB, (Below.heap_alloc _ _ _ hlt).trans hH⟩
  refine (add256 h0 hv 149 w.heap.size M [x] (some ⟨W.heap.size, 0, none⟩) 1 (Nat.le_refl 1) (by simpa using hx) (by simp; omega) _ hst ?_).mono ?_
  · intro _
    refine ⟨_, rfl, by show W.heap.size ≠ w.heap.size; omega, fun j v hj => ?_⟩
    have := news_alloc W [.int .u8 (x : Int)] T j v (by simpa using hj)
    simpa using this
  · rintro e w' ⟨rfl, h1, h2⟩
    have hz := h2.size
    exact ⟨rfl, h1, by omega, (h.fr.alloc _).then_ h2 fun k hk e => by omega⟩
def nAt (g : Nat) (w : World) : Nat := (intOf ((w.cell? ⟨g, 72, none⟩).getD undef)).toNat
set_option maxHeartbeats 4000000 in
theorem sum256 (h0 : Sha.V) (hv : VOk h0) (m blk : List Nat) (hB : Blk m blk) (hl : m.length < 2 ^ 60) (w : World) :
    Calls Tryz.prog 108 #[.agg (stc h0 m blk).toArray, .int .i64 8] w fun e w' => ∃ v, e = .returned v ∧ w'.ownsRow w.heap.size 5 1 v 32 (n8 (sumBytes (vl (shaFin h0 m)))) ∧ Fr (fun _ => False) w w' := by
  go_enter Tryz.func108, Tryz.ntmps108
  have h1 : SmS h0 w m (w.alloc (.cells (stc h0 m blk).toArray 149)) := ⟨⟨blk, hB, heap_alloc_new w _⟩, by simp, (Fr.refl _ w).alloc _⟩
  go_wp2_with (first
    | ((with_reducible refine at_dst (N := 10) rfl ?_); refine wpList_gen (SmS h0 w m) h1 ?_; rintro W hS; have hn := hS.cell; have HS := Lib.hid hS; clear hS)
    | (go_at_call 107; refine (HS.out.add1 hv 128 (by omega) (by omega) _).mono ?_; rintro e w1 ⟨rfl, hS1⟩))
  obtain ⟨z, hz⟩ : ∃ z, zs m = z := ⟨_, rfl⟩
  have hz' : z < 64 ∧ (m.length + 1 + z) % 64 = 56 := by rw [← hz]; unfold zs; omega
  have hb8 : Hid (((m.length : Int) * 8) = ((bitLen m.length : Nat) : Int)) := by show _ = _; unfold bitLen; omega
  rw [show (m.length : Int) * 8 = ((bitLen m.length : Nat) : Int) from hb8.out]
  clear h1 HS hn
  go_loopw [] (fun wr => ∃ k, k ≤ z ∧ SmS h0 w (zpad m k) wr) (fun wr => m.length + 1 + z - nAt w.heap.size wr)
  case atStart => exact ⟨0, by omega, hS1⟩
  case round =>
    clear hS1
    obtain ⟨k, hk, hS⟩ := hrel
    have hn := hS.cell
    rw [zpad_len] at hn
    by_cases hkz : k = z
    · subst hkz
      have d0 : ((m.length + 1 + k : Nat) : Int) % 64 = 56 := by omega
      have HS := Lib.hid hS
      clear hS
      go_wp2
      clear d0
      generalize (((m.length : Int) + 1 + (k : Int)) % 64 != 56) = vb
      go_loopw [7] (fun t wr => ∃ j : Nat, j ≤ 8 ∧ t = .int .i64 (56 - 8 * (j : Int)) ∧ SmS h0 w (padded m j) wr) (fun t _ => (intOf t + 8).toNat)
      case atStart => exact ⟨0, by omega, rfl, by have := HS.out; rw [← hz] at this; simpa [padded, lenBytes] using this⟩
      case round =>
        clear HS hn
        obtain ⟨j, hj, rfl, hS⟩ := hrel
        by_cases hj8 : j = 8
        · subst hj8
          have dj : decide ((0 : Int) ≤ 56 - 8 * ((8 : Nat) : Int)) = false := by decide
          have HS := Lib.hid hS
          clear hS
          go_wp2
          obtain ⟨blkz, hBz, hHz⟩ := HS.out.st
          have hS0 := HS.out
          have hvF : hb h0 (padded m 8) ((padded m 8).length / 64) = shaFin h0 m := rfl
          rw [stc, hvF] at hHz
          have hx9 : ∀ x ∈ vl (shaFin h0 m), x < Sha.M := vl_lt (hb_ok hv _ _)
          obtain ⟨F, hFe'⟩ : ∃ F, shaFin h0 m = F := ⟨_, rfl⟩
          rw [hFe'] at hHz hx9
          have hFe := Lib.hid hFe'
          clear hFe' hvF
          generalize (56 - 8 * ((8 : Nat) : Int)) = v7
          go_loopw [36, 6] (fun t v wr3 => ∃ i : Nat, i ≤ 8 ∧ t = .int .i64 i ∧ wr3.ownsRow (w.heap.size + 1) 5 1 v (4 * i) (n8 (sumBytes ((vl F).take i))) ∧ wr3.heap[w.heap.size]? = wr.heap[w.heap.size]? ∧ w.heap.size < wr3.heap.size ∧ Fr (fun _ => False) w wr3) (fun t _ _ => 8 - (intOf t).toNat)
          case atStart => exact ⟨0, by omega, rfl, World.ownsRow_nil _ _ _ _, rfl, hS0.lt, hS0.fr⟩
          case round =>
            obtain ⟨i, hi, rfl, hown, hsame, hlt, hF⟩ := hrel
            rw [hHz] at hsame
            by_cases hi8 : i = 8
            · subst hi8
              have d8 : decide (((8 : Nat) : Int) < 8) = false := by decide
              have HO := Lib.hid hown
              have HF := Lib.hid hF
              clear hown hF
              go_wp2
              go_ret
              have HO' : wr.ownsRow w.heap.size 5 1 u6 32 (n8 (sumBytes (vl F))) := owns_down HO.out
              exact ⟨u6, rfl, by rw [hFe.out]; exact HO', HF.out⟩
            · have b0 : (0 : Int) ≤ (i : Int) := by omega
              have b1 : (i : Int) < 8 := by omega
              have d8 : decide ((i : Int) < 8) = true := decide_eq_true (by omega)
              obtain ⟨x, hxi⟩ : ∃ x, (vl F)[i]? = some x := ⟨_, List.getElem?_eq_getElem (by show i < 8; omega)⟩
              have hxl : x < Sha.M := hx9 x (List.mem_of_getElem? hxi)
              have hc : wr.cell? ⟨w.heap.size, i, none⟩ = some (.int .u32 x) := (cell_of_row _ _ i _ _ _ hsame).trans (by rw [List.getElem?_toArray, List.getElem?_append_left (by simp [vl]; omega), List.getElem?_map, hxi]; rfl)
              have HO := Lib.hid hown
              have HSm := Lib.hid hsame
              have HF := Lib.hid hF
              clear hown hsame hF
              have hnews : Hid ([Value.int .u8 ((x : Int) / 16777216 % 256), .int .u8 ((x : Int) / 65536 % 256), .int .u8 ((x : Int) / 256 % 256), .int .u8 ((x : Int) % 256)] = n8 (wbytes x)) := by show _ = _; rfl
              have hone : ∀ u ∈ [Value.int .u8 ((x : Int) / 16777216 % 256), .int .u8 ((x : Int) / 65536 % 256), .int .u8 ((x : Int) / 256 % 256), .int .u8 ((x : Int) % 256)], u.oneCell' = true := by intro u hu; simp at hu; rcases hu with rfl | rfl | rfl | rfl <;> rfl
              have htk : Hid (n8 (sumBytes ((vl F).take i)) ++ n8 (wbytes x) = n8 (sumBytes ((vl F).take (i + 1)))) := by
                show _ = _
                rw [List.take_add_one, hxi]
                unfold sumBytes n8
                rw [List.flatMap_append, ← List.map_append]
                rfl
              go_wp2_with (at_builtin; refine app_lit HO.out 4 [.int .u8 ((x : Int) / 16777216 % 256), .int .u8 ((x : Int) / 65536 % 256), .int .u8 ((x : Int) / 256 % 256), .int .u8 ((x : Int) % 256)] Tryz.underlying37 byteInfo rfl (by decide) rfl hone (by omega) (by omega) (by omega) rfl rfl rfl rfl ?_; intro v' w2 hrow2 hfr2)
              go_roundw
              case rel => exact ⟨i + 1, by omega, by go_num, by rw [← htk.out, ← hnews.out]; exact hrow2, by rw [hHz, ← HSm.out]; exact hfr2.keep _ hlt (by omega), by have := hfr2.size; omega, HF.out.then_ hfr2 (fun k hk e => by omega)⟩
              case measure => simp [intOf]; omega
        · have dj : decide ((0 : Int) ≤ 56 - 8 * (j : Int)) = true := decide_eq_true (by omega)
          have HS := Lib.hid hS
          clear hS
          have hx8 : Hid ((bitLen m.length : Int) / 2 ^ (56 - 8 * j) % 256 = ((bitLen m.length / 2 ^ (56 - 8 * j) % 256 : Nat) : Int)) := by show _ = _; rw [Int.natCast_emod, Int.natCast_ediv, Int.natCast_pow]; rfl
          go_wp2_with (first
            | (go_at_call 107; rw [hx8.out]; refine (HS.out.add1 hv _ (Nat.mod_lt _ (by decide)) (by rw [padded_len]; unfold zs; omega) _).mono ?_; rintro e w1 ⟨rfl, hS1⟩; rw [padded_succ] at hS1))
          go_roundw
          case rel => exact ⟨j + 1, by omega, by go_num, hS1⟩
          case measure => simp [intOf]; omega
    · have d0 : ¬ ((m.length + 1 + k : Nat) : Int) % 64 = 56 := by omega
      have HS := Lib.hid hS
      clear hS
      go_wp2_with (first
        | (go_at_call 107; refine (HS.out.add1 hv 0 (by omega) (by rw [zpad_len]; omega) _).mono ?_; rintro e w1 ⟨rfl, hS1⟩; rw [zpad_succ] at hS1))
      go_roundw
      case rel => exact ⟨k + 1, by omega, hS1⟩
      case measure =>
        have hn1 := hS1.cell
        rw [zpad_len] at hn1
        simp only [nAt, hn, hn1, Option.getD_some, intOf]
        omega
#print axioms sum256
end Go.Proofs.YtghcadbmjglidaaGreatDoor
end
section
set_option linter.unusedVariables false
namespace Go.Proofs.YtghcadbmjglidaaGreatDoor
open Go.RowKit
theorem pairInfo : (Tryz.prog.info? 185).map (fun i => (i.zero, i.size, i.bytes)) = some (some (.agg #[.string ByteArray.empty, .string ByteArray.empty]), 2, 32) := by kernel_rfl
theorem textInfo : (Tryz.prog.info? 9).map (fun i => (i.zero, i.size, i.bytes)) = some (some (.string ByteArray.empty), 1, 16) := by kernel_rfl
theorem take_pcs (ps : List Uri.Pr) (f : Uri.Pr → Uri.Pr) (k : Nat) (h : k < ps.length) : (ps.take (k + 1)).map f = (ps.take k).map f ++ [f (ps.getD k ([], []))] := by
  rw [List.take_succ_eq_append_getElem h, List.map_append]
  simp [List.getD_eq_getElem?_getD, List.getElem?_eq_getElem h]
theorem sum_bound (l : List (List UInt8)) (B : Nat) (h : ∀ x ∈ l, x.length ≤ B) : (l.map List.length).sum ≤ l.length * B := by
  induction l with
  | nil => simp
  | cons x t ih =>
    have h1 := h x (by simp)
    have h2 := ih fun y hy => h y (by simp [hy])
    simp only [List.map_cons, List.sum_cons, List.length_cons, Nat.add_mul, Nat.one_mul]
    omega
theorem piece_bytes (x y : List UInt8) : ((⟨x.toArray⟩ : ByteArray) ++ ⟨#[61]⟩ ++ ⟨y.toArray⟩) = ⟨(Uri.piece (x, y)).toArray⟩ := by
  rw [ByteArray.mk_append_mk, ByteArray.mk_append_mk]
  simp [Uri.piece]
theorem enc2_len (p : Uri.Pr) (h : p.1.length + p.2.length ≤ 100000) : (Uri.enc2 p).1.length + (Uri.enc2 p).2.length ≤ 300000 := by
  have h1 := enc_le false p.1
  have h2 := enc_le false p.2
  unfold Uri.enc2; simp only; omega
set_option maxRecDepth 100000 in
set_option maxHeartbeats 4000000 in
theorem uri_Canon (ps : List Uri.Pr) (A : Option Addr) (c : Nat) (w : World) (hr : PRow w A ps) (hl : ps.length ≤ 1000) (hs : ∀ k, k < ps.length → (ps.getD k ([], [])).1.length + (ps.getD k ([], [])).2.length ≤ 100000) :
    Calls Tryz.prog 105 #[.slice A ps.length c] w fun e w' => e = .returned (str (Uri.canon ps)) ∧ Below w.heap.size w w' := by
  have hT : ∀ k, k < ps.length → Hid ((ps.take (k + 1)).map Uri.enc2 = (ps.take k).map Uri.enc2 ++ [Uri.enc2 (ps.getD k ([], []))]) := fun k h => take_pcs ps Uri.enc2 k h
  have hE : Hid ((ps.take ps.length).map Uri.enc2 = ps.map Uri.enc2) := by show _ = _; rw [List.take_length]
  have hown : w.ownsRow w.heap.size 185 2 (.slice none 0 0) 0 (pcs ((ps.take 0).map Uri.enc2)) := World.ownsRow_nil _ _ _ _
  have hlm : (ps.map Uri.enc2).length = ps.length := by simp
  have hcan : Hid (Uri.canon ps = Uri.jn [38] ((Uri.sorted (ps.map Uri.enc2)).map Uri.piece)) := rfl
  have hsl := Uri.sorted_length (ps.map Uri.enc2)
  have hmem : ∀ k, k < ps.length → ((Uri.sorted (ps.map Uri.enc2)).getD k ([], [])).1.length + ((Uri.sorted (ps.map Uri.enc2)).getD k ([], [])).2.length ≤ 300000 := fun k hk => by
    have hk2 : k < (Uri.sorted (ps.map Uri.enc2)).length := by omega
    have hm : (Uri.sorted (ps.map Uri.enc2))[k] ∈ ps.map Uri.enc2 := (Uri.sorted_perm _).mem_iff.1 (List.getElem_mem hk2)
    obtain ⟨p, hp, he⟩ := List.mem_map.1 hm
    obtain ⟨i, hi, rfl⟩ := List.getElem_of_mem hp
    have h2 := enc2_len ps[i] (by have := hs i hi; simpa [List.getD_eq_getElem?_getD, List.getElem?_eq_getElem hi] using this)
    rw [he] at h2
    simpa [List.getD_eq_getElem?_getD, List.getElem?_eq_getElem hk2] using h2
  obtain ⟨n, hn⟩ : ∃ n, n = ps.length := ⟨_, rfl⟩
  unfold PRow at hr
  rw [← hn] at hr hl hT hE hs hlm hmem ⊢
  clear hn
  rw [hlm] at hsl
  go_enter Tryz.func105, Tryz.ntmps105
  go_wp2
  go_loopw [3, 11] (fun v i wr => ∃ k : Nat, k ≤ n ∧ i = .int .i64 k ∧ wr.ownsRow w.heap.size 185 2 v k (pcs ((ps.take k).map Uri.enc2)) ∧ Fr (fun k => w.heap.size ≤ k) w wr) (fun _ i _ => n - (intOf i).toNat)
  case atStart => exact ⟨0, Nat.zero_le _, rfl, hown, Fr.refl _ _⟩
  case round =>
    obtain ⟨k, hk, rfl, hrow, hfr⟩ := hrel
    clear hown
    by_cases hlt : k < n
    · obtain ⟨g, o, rfl, hg, hc⟩ := hr (by omega)
      have hTk := hT k hlt
      have hsk := hs k hlt
      obtain ⟨c1, c2⟩ := hc k hlt
      have d1 := hfr.cell c1 (by show ¬ w.heap.size ≤ g; omega)
      have d2 := hfr.cell c2 (by show ¬ w.heap.size ≤ g; omega)
      clear hc hr hT hE c1 c2 hs hmem hcan hsl hlm
      generalize ps.getD k ([], []) = p at *
      generalize (ps.take k).map Uri.enc2 = acc at *
      obtain ⟨x, y⟩ := p
      simp only at hsk d1 d2
      have hex := enc_le false x
      have hey := enc_le false y
      have hX : Hid (Uri.enc2 (x, y) = (Uri.enc false x, Uri.enc false y)) := rfl
      rw [hX.out] at hTk
      clear hX
      have hc1 := uri_Encode x false
      have hc2 := uri_Encode y false
      generalize Uri.enc false x = ex at *
      generalize Uri.enc false y = ey at *
      have h1c := encP_cell (ex, ey)
      go_wp2
      have hb1 : w.heap.size ≤ wr.heap.size := hfr.size
      have b1 : (wr.alloc (.cells #[.string ⟨x.toArray⟩, .string ⟨y.toArray⟩] 185)).cell? ⟨wr.heap.size, 0, none⟩ = some (str x) := by simp
      have b2 : (wr.alloc (.cells #[.string ⟨x.toArray⟩, .string ⟨y.toArray⟩] 185)).cell? ⟨wr.heap.size, 1, none⟩ = some (str y) := by simp
      have bf : Fr (fun k => w.heap.size ≤ k) w (wr.alloc (.cells #[.string ⟨x.toArray⟩, .string ⟨y.toArray⟩] 185)) := hfr.alloc _
      have br := hrow.alloc (.cells #[.string ⟨x.toArray⟩, .string ⟨y.toArray⟩] 185)
      have bq : ∀ k, u3.ownBlock = some k → k < wr.heap.size := fun k hk => (hrow.lt k hk).2
      generalize wr.alloc (.cells #[.string ⟨x.toArray⟩, .string ⟨y.toArray⟩] 185) = V at *
      generalize wr.heap.size = q at *
      clear d1 d2 hrow hfr
      have m2 : ∀ w2, Below V.drew.heap.size V.drew w2 → w2.cell? ⟨q, 0, none⟩ = some (str x) ∧ w2.cell? ⟨q, 1, none⟩ = some (str y) ∧ w2.ownsRow w.heap.size 185 2 u3 k (pcs acc) ∧ Fr (fun k => w.heap.size ≤ k) w w2 := fun w2 hb1 =>
        have hb2 : Below V.heap.size V w2 := ⟨hb1.os, hb1.tape, hb1.output, hb1.size, hb1.block⟩
        ⟨(Fr.of_below0 hb2).cell b1 (fun h => h), (Fr.of_below0 hb2).cell b2 (fun h => h), own_fr br (Fr.of_below0 hb2) (fun _ _ _ _ h => h), bf.then_ (Fr.of_below0 hb2) (fun _ _ h => h.elim)⟩
      go_region_held3 (fun w' => w'.cell? ⟨q, 0, none⟩ = some (str x) ∧ w'.cell? ⟨q, 1, none⟩ = some (str y)) (go_keep)
        (first
          | (go_at_call_of 104 (str x); refine (hc1 _ (by omega)).mono ?_; rintro e w2 ⟨rfl, hb2⟩; obtain ⟨k1, k2, hrow2, hbf2⟩ := m2 w2 hb2)
          | (go_at_call_of 104 (str y); refine (hc2 _ (by omega)).mono ?_; rintro e w3 ⟨rfl, hb3⟩; have l1 := (Fr.of_below0 hb3).cell k1 (fun h => h); have l2 := (Fr.of_below0 hb3).cell k2 (fun h => h); have hrow3 := own_fr hrow2 (Fr.of_below0 hb3) (fun _ _ _ _ h => h); have hbf3 := hbf2.then_ (Fr.of_below0 hb3) (fun _ _ h => h.elim))
          | (refine step_app2 (hrow3.alloc (.cells #[str ex, str ey] 185)) 1 [str ex, str ey] Tryz.underlying140 pairInfo rfl (by decide) rfl h1c (by omega) (by omega) (by have := hbf3.size; simp; omega) (by rfl) (by rfl) (by rfl) (by rfl) (news_alloc w3 [str ex, str ey] 185) ?_; intro v' w4 hrow4 hfr4; have q1 := hfr4.cell (((Fr.refl (fun _ => False) w3).alloc _).cell l1 (fun h => h)) (fun h => absurd (bq _ h) (Nat.lt_irrefl _)); have q2 := hfr4.cell (((Fr.refl (fun _ => False) w3).alloc _).cell l2 (fun h => h)) (fun h => absurd (bq _ h) (Nat.lt_irrefl _))))
      all_goals
        go_wp2
        go_roundw
        case rel => exact ⟨k + 1, by omega, by go_num, by rw [hTk.out, pcs_snoc]; exact hrow4, Fr.own (hbf3.alloc _) (hrow3.alloc _) hfr4 fun _ h => h⟩
        case measure => simp [intOf]; omega
    · have hkn : k = n := by omega
      subst hkn
      rw [hE.out] at hrow
      have hsp := sort_pairs (ps.map Uri.enc2) w.heap.size u3 wr (by rw [hlm]; exact hrow) (by rw [hlm]; omega)
      clear hr hT hE hs hrow
      generalize Uri.sorted (ps.map Uri.enc2) = ss at *
      clear hlm
      go_wp2_with (go_at_call 149; refine hsp.mono ?_; clear hsp; rintro e w2 ⟨rfl, hf2, ⟨A2, c2, rfl, hc2, hp2⟩⟩)
      have hT2 : ∀ j, j < k → Hid ((ss.take (j + 1)).map Uri.piece = (ss.take j).map Uri.piece ++ [Uri.piece (ss.getD j ([], []))]) := fun j h => by
        show _ = _
        rw [List.take_succ_eq_append_getElem (by omega), List.map_append]
        simp [List.getD_eq_getElem?_getD, List.getElem?_eq_getElem (show j < ss.length by omega)]
      have hE2 : Hid ((ss.take k).map Uri.piece = ss.map Uri.piece) := by show _ = _; rw [← hsl, List.take_length]
      have hpl : (ss.map Uri.piece).length = k := by simp [hsl]
      have hsum : ((ss.map Uri.piece).map List.length).sum ≤ 300301000 := by
        have h9 := sum_bound (ss.map Uri.piece) 300001 (fun z hz => by
          obtain ⟨p, hp, rfl⟩ := List.mem_map.1 hz
          obtain ⟨i, hi, rfl⟩ := List.getElem_of_mem hp
          have h8 := hmem i (by omega)
          simp only [List.getD_eq_getElem?_getD, List.getElem?_eq_getElem hi, Option.getD_some] at h8
          simp [Uri.piece]; omega)
        rw [hpl] at h9
        have : k * 300001 ≤ 1000 * 300001 := Nat.mul_le_mul_right _ hl
        omega
      have hown2 : w2.ownsRow w2.heap.size 9 1 (.slice none 0 0) 0 (tcells ((ss.take 0).map Uri.piece)) := World.ownsRow_nil _ _ _ _
      unfold PRow at hp2
      rw [hsl] at hp2 hc2
      go_wp2
      go_loopw [6, 30] (fun v i wq => ∃ j : Nat, j ≤ k ∧ i = .int .i64 j ∧ wq.ownsRow w2.heap.size 9 1 v j (tcells ((ss.take j).map Uri.piece)) ∧ Fr (fun q => w2.heap.size ≤ q) w2 wq) (fun _ i _ => k - (intOf i).toNat)
      case atStart => exact ⟨0, Nat.zero_le _, rfl, hown2, Fr.refl _ _⟩
      case round =>
        obtain ⟨j, hj, rfl, hrow, hfq⟩ := hrel
        clear hown2
        by_cases hlt2 : j < k
        · obtain ⟨g, o, rfl, hg, hc⟩ := hp2 (by omega)
          have hTj := hT2 j hlt2
          have hsj := hmem j hlt2
          obtain ⟨c1, c3⟩ := hc j hlt2
          have d1 := hfq.cell c1 (by show ¬ w2.heap.size ≤ g; omega)
          have d2 := hfq.cell c3 (by show ¬ w2.heap.size ≤ g; omega)
          clear hc hp2 hT2 hE2 c1 c3 hmem hcan hsum hpl
          generalize ss.getD j ([], []) = p at *
          generalize (ss.take j).map Uri.piece = acc at *
          obtain ⟨x, y⟩ := p
          simp only at hsj d1 d2
          have hPB := Lib.hid (piece_bytes x y)
          have h1c : ∀ u ∈ [Value.string ((⟨x.toArray⟩ : ByteArray) ++ ⟨#[61]⟩ ++ ⟨y.toArray⟩)], u.oneCell' = true := one_cell1 rfl
          have hb2 := hfq.size
          have hnw := news_alloc (wr.alloc (.cells #[.string ⟨x.toArray⟩, .string ⟨y.toArray⟩] 185)) [.string (⟨x.toArray⟩ ++ ⟨#[61]⟩ ++ ⟨y.toArray⟩)] 9
          rw [show (wr.alloc (.cells #[.string ⟨x.toArray⟩, .string ⟨y.toArray⟩] 185)).heap.size = wr.heap.size + 1 by simp] at hnw
          go_wp2_with (at_builtin; go_must (refine app_row2 ((hrow.alloc (.cells #[.string ⟨x.toArray⟩, .string ⟨y.toArray⟩] 185)).alloc (.cells #[.string (⟨x.toArray⟩ ++ ⟨#[61]⟩ ++ ⟨y.toArray⟩)] 9)) 1 [.string (⟨x.toArray⟩ ++ ⟨#[61]⟩ ++ ⟨y.toArray⟩)] Tryz.underlying22 textInfo rfl (by decide) rfl h1c ?_ ?_ ?_ rfl rfl rfl rfl hnw ?_); omega; omega; (simp; omega); intro v' w4 hrow4 hfr4)
          go_roundw
          case rel => exact ⟨j + 1, by omega, by go_num, by rw [hTj.out, tcells, List.map_append]; rw [hPB.out] at hrow4; exact hrow4, Fr.own ((hfq.alloc _).alloc _) ((hrow.alloc _).alloc _) hfr4 fun _ h => h⟩
          case measure => simp [intOf]; omega
        · have hjk : j = k := by omega
          subst hjk
          rw [hE2.out] at hrow
          have hjn := strings_Join (ss.map Uri.piece) [38] w2.heap.size _ _ (by rw [hpl]; exact hrow) (by omega) ⟨by decide, by decide⟩ (by omega)
          clear hp2 hT2 hE2 hmem hsum
          rw [← hcan.out] at hjn
          clear hcan
          go_wp2_with (go_at_call 26; refine hjn.mono ?_; rintro e w4 ⟨rfl, hb4⟩)
          go_ret
          have hall : Fr (fun q => w.heap.size ≤ q) w _ := (hfr.trans hf2).then_ hfq fun q hq h => by have := hf2.size; have := hfr.size; omega
          exact ⟨rfl, (hall.below (Nat.le_refl _) fun q hq => by omega).trans (hb4.mono hall.size)⟩
end Go.Proofs.YtghcadbmjglidaaGreatDoor
end
section
set_option linter.unusedVariables false
namespace Go.Proofs.YtghcadbmjglidaaGreatDoor
open Go.RowKit
def shaOf (m : List Nat) : List Nat := sumBytes (vl (shaFin Sha.V0 m))
theorem owns_le {w : World} {b b' : Nat} {e : TypeId} {s : Nat} {v : Value} {n : Nat} {xs : List Value} (h : w.ownsRow b e s v n xs) (hb : b' ≤ b) : w.ownsRow b' e s v n xs :=
  ⟨h.1, h.2.imp id fun ⟨g, cap, cur, e, hb2, rest⟩ => ⟨g, cap, cur, e, by omega, rest⟩⟩
theorem V0_ok : VOk Sha.V0 := ⟨by decide, by decide, by decide, by decide, by decide, by decide, by decide, by decide⟩
def Has (w : World) (sp : Option Addr) (l : List Nat) : Prop := 0 < l.length → ∃ ad, sp = some ad ∧ ∀ j v, (n8 l)[j]? = some v → w.cell? (ad.add j) = some v
theorem Has.src {w : World} {sp : Option Addr} {l : List Nat} (h : Has w sp l) {g : Nat} (hg : w.heap.size ≤ g) {W : World} (hF : Fr (fun _ => False) w W) : Src g W sp l := fun h0 => by
  obtain ⟨ad, rfl, hc⟩ := h h0
  refine ⟨ad, rfl, ?_, fun j v hv => hF.cell (hc j v hv) id⟩
  obtain ⟨v, hv⟩ : ∃ v, (n8 l)[0]? = some v := ⟨_, List.getElem?_eq_getElem (by simpa using h0)⟩
  have := World.block_lt_of_cell? _ _ (hc 0 v hv)
  rw [add_block] at this
  omega
noncomputable abbrev zstW (w : World) : World := w.alloc (.cells Tryz.zeroCells149 149)
theorem zst_new (w : World) : (zstW w).heap[w.heap.size]? = some (.cells Tryz.zeroCells149.toList.toArray 149 (0, 0)) := heap_alloc_new w _
theorem zst_there (w : World) : (zstW w).there w.heap.size 0 (stc Sha.V0 [] blk0).toArray.size := there_of (zst_new w) (by rw [Array.toArray_toList, zst_size]; decide)
theorem st_laid (w w1 : World) (hF1 : Fr (fun _ => False) w w1) : SmS Sha.V0 w1 [] ((zstW w1).setCells w1.heap.size 0 (stc Sha.V0 [] blk0)) ∧ Fr (fun _ => False) w ((zstW w1).setCells w1.heap.size 0 (stc Sha.V0 [] blk0)) :=
  ⟨⟨⟨blk0, blk0_ok, st_new _ (zst_new w1) (by rw [stc_len _ _ _ rfl, Array.length_toList, zst_size])⟩, by rw [setCells_size]; simp, Fr.setCells (Fr.refl _ w1) _ (fun h => by omega) _ 0 _ ((Fr.refl _ w1).alloc _)⟩,
    Fr.setCells hF1 _ (fun h => by have := hF1.size; omega) _ 0 _ (hF1.alloc _)⟩
set_option maxHeartbeats 4000000 in
theorem sha256 (m : List Nat) (hx : ∀ x ∈ m, x < 256) (hl : m.length < 2 ^ 60) (sp : Option Addr) (cap : Nat) (hcap : m.length ≤ cap) (w : World) (hs : Has w sp m) :
    Calls Tryz.prog 63 #[.slice sp m.length cap] w fun e w' => ∃ v, e = .returned v ∧ w'.ownsRow w.heap.size 5 1 v 32 (n8 (shaOf m)) ∧ Fr (fun _ => False) w w' := by
  go_enter Tryz.func63, Tryz.ntmps63
  have HS := Lib.hid hs
  clear hs
  go_wp2_with (first
    | (go_at_call 106; refine (start256 w).mono ?_; rintro e w1 ⟨rfl, hF1⟩; have hst := st_laid w w1 hF1)
    | ((with_reducible refine at_store (p := 3) rfl ?_); refine wpList_store_mid rfl 149 (.tmp 3) (.tmp 4) rfl w1.heap.size 0 (stc Sha.V0 [] blk0).toArray rfl rfl (zst_there w1) info_st (all_oneCell_toArray (stc_one _ _ _)) ?_; rw [List.toList_toArray]; generalize (zstW w1).setCells w1.heap.size 0 (stc Sha.V0 [] blk0) = W2 at hst ⊢; obtain ⟨hS2, hF2⟩ := hst; have HS2 := Lib.hid hS2; clear hS2)
    | (go_at_call 107; refine (add256 Sha.V0 V0_ok 149 w1.heap.size [] m sp cap hcap hx (by simp; omega) W2 HS2.out.st (HS.out.src hF1.size hF2)).mono ?_; rintro e w3 ⟨rfl, ⟨blk, hB, hH⟩, hF3⟩; rw [List.nil_append] at hB hH)
    | ((with_reducible refine at_dst (N := 7) rfl ?_); refine wpList_load_mid rfl 149 (.tmp 3) rfl w1.heap.size 0 rfl (stc Sha.V0 m blk) _ (range_of hH) Tryz.underlying149 rfl (load_st _ _ _ hB.len) ?_; simp only [Act.put, List.setIfInBounds_toArray, List.set_cons_zero, List.set_cons_succ])
    | (go_at_call 108; refine (sum256 Sha.V0 V0_ok m blk hB hl w3).mono ?_; rintro e w4 ⟨v, rfl, hO, hF4⟩))
  have z1 := hF1.size
  have z2 := hF2.size
  have z3 := hF3.size
  have hF23 : Fr (fun _ => False) w w3 := hF2.then_ hF3 (fun k hk e => by omega)
  have hO' : w4.ownsRow w.heap.size 5 1 v 32 (n8 (shaOf m)) := owns_le hO (by omega)
  have hF5 : Fr (fun _ => False) w w4 := hF23.then_ hF4 (fun k hk e => e)
  go_ret
  exact ⟨v, rfl, hO', hF5⟩
#print axioms sha256
end Go.Proofs.YtghcadbmjglidaaGreatDoor
end
section
set_option linter.unusedVariables false
namespace Go.Proofs.YtghcadbmjglidaaGreatDoor
open Go.RowKit
theorem byteInfo' : (Tryz.prog.info? 5).map (fun i => (i.zero, i.size, i.bytes)) = some (some (.int .u8 0), 1, 1) := by kernel_rfl
theorem own_zeros (w : World) (n cap : Nat) (h : n ≤ cap) (h2 : cap ≤ maxLen) : ((w.alloc (.cells (Builtin.zeroCells #[.int .u8 0] n ++ Builtin.zeroCells #[.int .u8 0] (cap - n)) 5)).drew).ownsRow w.heap.size 5 1 (.slice (some ⟨w.heap.size, 0, none⟩) 0 cap) 0 [] :=
  ⟨rfl, .inr ⟨w.heap.size, cap, _, rfl, Nat.le_refl _, heap_alloc_new w _, Nat.zero_le _, h2, by simp [Builtin.zeroCells]; omega, by simp⟩⟩
set_option maxHeartbeats 4000000 in
theorem grow_nil (n : Nat) (hn : n ≤ 100000000000) (w : World) :
    Calls Tryz.prog 187 #[.slice none 0 0, .int .i64 n] w fun e w' => ∃ v, e = .returned v ∧ w'.ownsRow w.heap.size 5 1 v 0 [] ∧ Fr (fun _ => False) w w' := by
  have hd0 : decide ((n : Int) < 0) = false := decide_eq_false (by omega)
  by_cases h0 : 0 < n
  · have hd1 : decide ((n : Int) > 0) = true := decide_eq_true (by omega)
    have hd2 : decide ((0 : Int) < n) = true := decide_eq_true (by omega)
    obtain ⟨i0, hi, hz0, hz1, hz2⟩ := info_parts byteInfo'
    have hrun := fun w ty => Lib.run_append_nil_zeros (P := Tryz.prog) w 37 3 ty 5 i0 (.int .u8 0) .i64 .i64 Tryz.underlying37 Tryz.underlying3 hi hz0 n h0 (by omega) (by omega) (by rw [hz2]; omega)
    go_enter Tryz.func187, Tryz.ntmps187
    go_wp2_with (at_builtin; refine Lib.wpList_append_run _ rfl (.tmp 20) (.tmp 21) 37 3 rfl _ _ rfl rfl _ _ (hrun _ _) ?_)
    go_ret
    exact ⟨_, rfl, own_zeros w n _ (grownCap_ge _ _ _ _) (grownCap_le_maxLen _ _ _ _ (by unfold maxLen; omega)), ((Fr.refl _ _).alloc _).drew⟩
  · obtain rfl : n = 0 := by omega
    go_enter Tryz.func187, Tryz.ntmps187
    go_wp2
    go_ret
    exact ⟨_, rfl, World.ownsRow_nil _ _ _ _, Fr.refl _ _⟩
section
variable {P : Program} {ops : Array Oper} {rest : List Oper} {o : Oper} {a : Act} {Q : Exit → Act → World → Prop}
theorem app_row3 {W : World} {base n size bytes : Nat} {v : Value} {xs : List Value} {t e : TypeId} {z : Value} {s x : Operand} {c : Nat} {X : Option Addr} (hown : W.ownsRow base e size v n xs) (m : Nat) (news : List Value)
    (ht : P.underlying t = some (.slice e)) (hinfo : (P.info? e).map (fun i => (i.zero, i.size, i.bytes)) = some (some z, size, bytes)) (hz : z.cells.size = size) (hsz : 0 < size)
    (hl : news.length = m * size) (h1 : ∀ u ∈ news, u.oneCell' = true) (h63 : n + m ≤ 140737488355328) (hbytes : (n + m) * bytes ≤ 140737488355328) (hbase : base ≤ W.heap.size)
    (hgd : o.guard = none) (ho : o.op = .call { callee := .builtin .append, args := #[s, x], argTypes := #[t, t] }) (hs : a.eval s = v) (hx : a.eval x = .slice X m c) (hnews : 0 < m → ∃ ad, X = some ad ∧ ∀ j u, news[j]? = some u → W.cell? (ad.add j) = some u)
    (h : ∀ v' w', w'.ownsRow base e size v' (n + m) (xs ++ news) → Fr (fun k => v.ownBlock = some k) W w' → wpList P ops Q rest (a.put o.dst v') w') :
    wpList P ops Q (o :: rest) a W := by
  by_cases hm : 0 < m
  · obtain ⟨ad, rfl, hn⟩ := hnews hm
    exact app_row2 hown m news ht hinfo hz hsz hl h1 h63 hbytes hbase hgd ho hs hx hn h
  · obtain rfl : m = 0 := by omega
    obtain rfl : news = [] := List.eq_nil_of_length_eq_zero (by simpa using hl)
    obtain ⟨i0, hi, hz0, hz1, hz2⟩ := info_parts hinfo
    obtain ⟨B, l, c0, rfl, hle⟩ : ∃ B l c0, v = .slice B l c0 ∧ l ≤ c0 := by
      rcases hown.2 with ⟨rfl, _⟩ | ⟨g, cap, cur, rfl, _, _, hc, _⟩
      · exact ⟨_, _, _, rfl, Nat.le_refl _⟩
      · exact ⟨_, _, _, rfl, hc⟩
    exact Lib.wpList_append_run _ hgd s x t t ho _ _ hs hx _ _ (run_app_none ht hi B X l c0 c hle) (h _ _ (by simpa using hown) (Fr.refl _ _))
end
theorem Has.fr {M : Nat → Prop} {w W : World} {sp : Option Addr} {l : List Nat} (h : Has w sp l) (hF : Fr M w W) (hM : ∀ k, k < w.heap.size → ¬ M k) : Has W sp l := fun h0 => by
  obtain ⟨ad, e, hc⟩ := h h0
  refine ⟨ad, e, fun j v hv => ?_⟩
  have h1 := hc j v hv
  exact hF.cell h1 (hM _ (World.block_lt_of_cell? _ _ h1))
set_option maxRecDepth 100000 in
set_option maxHeartbeats 8000000 in
theorem concat2 (a b : List Nat) (sa sb : Option Addr) (ca cb : Nat) (w : World) (ha : Has w sa a) (hb : Has w sb b) (hla : a.length ≤ 10000000000) (hlb : b.length ≤ 10000000000) (g : Nat)
    (h0 : w.cell? ⟨g, 0, none⟩ = some (.slice sa a.length ca)) (h1 : w.cell? ⟨g, 1, none⟩ = some (.slice sb b.length cb)) :
    Calls Tryz.prog 174 #[.slice (some ⟨g, 0, none⟩) 2 2] w fun e w' => ∃ v, e = .returned v ∧ w'.ownsRow w.heap.size 5 1 v (a.length + b.length) (n8 (a ++ b)) ∧ Fr (fun _ => False) w w' := by
  have hg : g < w.heap.size := World.block_lt_of_cell? w _ h0
  have hgr := fun w => grow_nil (a.length + b.length) (by omega) w
  have Ha := Lib.hid ha
  have Hb := Lib.hid hb
  have ea : (n8 a).length = a.length := List.length_map ..
  have eb : (n8 b).length = b.length := List.length_map ..
  have hab := Lib.hid (show n8 a ++ n8 b = n8 (a ++ b) from (List.map_append ..).symm)
  have ca1 : ∀ u ∈ n8 a, u.oneCell' = true := by intro u hu; obtain ⟨x, _, rfl⟩ := List.mem_map.1 hu; rfl
  have cb1 : ∀ u ∈ n8 b, u.oneCell' = true := by intro u hu; obtain ⟨x, _, rfl⟩ := List.mem_map.1 hu; rfl
  have EA := Lib.hid ea
  have EB := Lib.hid eb
  have CA := Lib.hid ca1
  have CB := Lib.hid cb1
  have SA : ∀ W, Fr (fun _ => False) w W → Hid (0 < a.length → ∃ ad, sa = some ad ∧ ∀ j u, (n8 a)[j]? = some u → W.cell? (ad.add j) = some u) := fun W hF => ha.fr hF (fun _ _ => id)
  have SB : ∀ W (M : Nat → Prop), Fr M w W → (∀ k, k < w.heap.size → ¬ M k) → Hid (0 < b.length → ∃ ad, sb = some ad ∧ ∀ j u, (n8 b)[j]? = some u → W.cell? (ad.add j) = some u) := fun W M hF hM => hb.fr hF hM
  clear ha hb ea eb ca1 cb1 Ha Hb
  generalize n8 a = xa at *
  generalize n8 b = xb at *
  generalize n8 (a ++ b) = xab at *
  generalize hna : a.length = na at *
  generalize hnb : b.length = nb at *
  clear hna hnb
  go_enter Tryz.func174, Tryz.ntmps174
  go_wp2
  refine wp_loop_rounds 3 ?_
  iterate 3 (rw [rounds_succ]; go_wp2_with (go_at_call 187; refine (hgr _).mono ?_; rintro e w1 ⟨v, rfl, hO, hF⟩; have d0 := hF.cell h0 id; have d1 := hF.cell h1 id; have HO := Lib.hid hO; have HF := Lib.hid hF; clear hO hF hgr))
  have S1 := SA w1 HF.out
  have hz1 := HF.out.size
  clear SA
  refine wp_loop_rounds 3 ?_
  rw [rounds_succ]
  go_wp2_with (at_builtin; refine app_row3 HO.out na xa Tryz.underlying37 byteInfo' rfl (by decide) (by rw [EA.out]; omega) CA.out (by omega) (by omega) hz1 rfl rfl rfl rfl S1.out ?_; intro v2 w2 hO2 hF2)
  have d2 := hF2.cell d0 (fun e => by have := (HO.out.lt _ e).1; dsimp only at this; omega)
  have d3 := hF2.cell d1 (fun e => by have := (HO.out.lt _ e).1; dsimp only at this; omega)
  have hF3 : Fr (fun _ => False) w w2 := Fr.then_ HF.out hF2 (fun k hk e => by have := (HO.out.lt k e).1; omega)
  have S2 := SB w2 _ hF3 (fun _ _ => id)
  have HO2 := Lib.hid hO2
  have HF3 := Lib.hid hF3
  have hz2 := hF3.size
  clear hO2 hF2 hF3 SB S1 HO HF d0 d1
  rw [rounds_succ]
  go_wp2_with (at_builtin; refine app_row3 HO2.out nb xb Tryz.underlying37 byteInfo' rfl (by decide) (by rw [EB.out]; omega) CB.out (by omega) (by omega) hz2 rfl rfl rfl rfl S2.out ?_; intro v3 w3 hO3 hF4)
  have hF5 : Fr (fun _ => False) w w3 := Fr.then_ HF3.out hF4 (fun k hk e => by have := (HO2.out.lt k e).1; omega)
  have d4 := hF4.cell d2 (fun e => by have := (HO2.out.lt _ e).1; dsimp only at this; omega)
  rw [Nat.zero_add, List.nil_append, hab.out] at hO3
  have HO3 := Lib.hid hO3
  have HF5 := Lib.hid hF5
  clear hO3 hF5 hF4 S2
  rw [rounds_succ]
  go_wp2
  go_ret
  exact ⟨_, rfl, HO3.out, HF5.out⟩
end Go.Proofs.YtghcadbmjglidaaGreatDoor
end
section
set_option linter.unusedVariables false
namespace Go.Proofs.YtghcadbmjglidaaGreatDoor
open Go.RowKit
def padK (k : List Nat) : List Nat := k ++ List.replicate (64 - k.length) 0
def macK (key : List Nat) : List Nat := if 64 < key.length then shaOf key else key
def macN (key m : List Nat) : List Nat := shaOf ((padK (macK key)).map (· ^^^ 92) ++ shaOf ((padK (macK key)).map (· ^^^ 54) ++ m))
abbrev fSha : Value := .func (.func 63) #[] #[]
theorem padK_len {k : List Nat} (h : k.length ≤ 64) : (padK k).length = 64 := by simp [padK]; omega
theorem padK_lt {k : List Nat} (h : ∀ x ∈ k, x < 256) : ∀ x ∈ padK k, x < 256 := by
  intro x hx
  rcases List.mem_append.1 hx with h1 | h1
  · exact h x h1
  · rw [(List.mem_replicate.1 h1).2]; decide
theorem splice_pad (k : List Nat) (h : k.length ≤ 64) : splice (n8 (List.replicate 64 0)) 0 (n8 k) = n8 (padK k) := by
  unfold splice padK
  show List.take 0 _ ++ (n8 k ++ List.drop _ (List.map _ _)) = List.map _ (k ++ _)
  rw [List.take_zero, List.nil_append, List.map_append, Nat.zero_add, List.length_map, ← List.map_drop, List.drop_replicate]
theorem alloc2_new (u : World) (o p : Obj) : ((u.alloc o).alloc p).heap[u.heap.size + 1]? = some p := by
  have h := heap_alloc_new (u.alloc o) p
  rwa [show (u.alloc o).heap.size = u.heap.size + 1 by simp] at h
def xorK (P : List Nat) (c k : Nat) : List Nat := (P.take k).map (· ^^^ c) ++ P.drop k
theorem xorK_at {P : List Nat} {c k : Nat} (h : k < P.length) : (xorK P c k)[k]? = some P[k] := by
  unfold xorK
  rw [List.getElem?_append_right (by simp; omega)]
  simp
  rw [show k - min k P.length = 0 by omega]
  simp [h]
theorem xorK_set {P : List Nat} {c k : Nat} (h : k < P.length) : (xorK P c k).set k (P[k] ^^^ c) = xorK P c (k + 1) := by
  unfold xorK
  rw [List.set_append_right _ _ (by simp; omega), List.take_succ_eq_append_getElem h, List.map_append, List.append_assoc]
  congr 1
  rw [show k - (List.map (fun x => x ^^^ c) (List.take k P)).length = 0 by simp; omega, List.drop_eq_getElem_cons h]
  rfl
theorem xorK_end (P : List Nat) (c : Nat) : xorK P c P.length = P.map (· ^^^ c) := by unfold xorK; rw [List.take_length, List.drop_length, List.append_nil]
theorem xor_lt {x c : Nat} (h : x < 256) (hc : c < 256) : x ^^^ c < 256 := Nat.xor_lt_two_pow (n := 8) h hc
theorem own_has {w : World} {base : Nat} {v : Value} {l : List Nat} (h : w.ownsRow base 5 1 v l.length (n8 l)) : ∃ sp cap, v = .slice sp l.length cap ∧ l.length ≤ cap ∧ Has w sp l := by
  rcases h.2 with ⟨rfl, h0⟩ | ⟨g, cap, cur, rfl, hg, hh, hcap, _⟩
  · exact ⟨none, 0, by rw [h0], by omega, fun h1 => by omega⟩
  · refine ⟨_, cap, rfl, hcap, fun _ => ⟨_, rfl, fun j u hj => ?_⟩⟩
    exact h.cells (g := g) rfl j u hj
theorem has_heap {w : World} {g : Nat} {l : List Nat} {T : TypeId} (h : w.heap[g]? = some (.cells (n8 l).toArray T (0, 0))) : Has w (some ⟨g, 0, none⟩) l := fun _ => ⟨_, rfl, fun j v hv => by
  rw [addr_add0, cell_of_row _ _ _ _ _ _ h, List.getElem?_toArray]; exact hv⟩
theorem sha_lt (l : List Nat) : ∀ x ∈ shaOf l, x < 256 := by
  intro x hx
  obtain ⟨y, hy, h2⟩ := List.mem_flatMap.1 hx
  have h3 : y < Sha.M := vl_lt (hb_ok V0_ok _ _) y hy
  simp only [wbytes, List.mem_cons, List.not_mem_nil, or_false] at h2
  rcases h2 with h2 | h2 | h2 | h2 <;> (subst h2; unfold Sha.M at h3; omega)
theorem sha_own (l : List Nat) (hl : l.length < 2 ^ 60) (h1 : ∀ x ∈ l, x < 256) (w0 W : World) (base : Nat) (v : Value) (hO : W.ownsRow base 5 1 v l.length (n8 l)) (hF : Fr (fun _ => False) w0 W) :
    Calls Tryz.prog 63 #[v] W fun e w' => ∃ v', e = .returned v' ∧ w'.ownsRow w0.heap.size 5 1 v' (shaOf l).length (n8 (shaOf l)) ∧ Fr (fun _ => False) w0 w' := by
  obtain ⟨sp, cap, rfl, hc, hh⟩ := own_has hO
  refine (sha256 l h1 hl sp cap hc W hh).mono ?_
  rintro e w' ⟨v', rfl, hO', hF'⟩
  exact ⟨v', rfl, by rw [show (shaOf l).length = 32 from rfl]; exact own_lower hO' hF.size, hF.trans hF'⟩
theorem cat_own (a b : List Nat) (sa sb : Option Addr) (ca cb : Nat) (w0 W W' : World) (hW : W' = W ∨ W' = W.drew) (ha : Has W sa a) (hb : Has W sb b) (hla : a.length ≤ 10000000000) (hlb : b.length ≤ 10000000000) (hF : Fr (fun _ => False) w0 W) (T : TypeId) (X : Value) (hX : X = .slice (some ⟨W.heap.size, 0, none⟩) 2 2) (V : World) (hV : V = W'.alloc (.cells #[.slice sa a.length ca, .slice sb b.length cb] T)) :
    Calls Tryz.prog 174 #[X] V fun e w' => ∃ v, e = .returned v ∧ w'.ownsRow w0.heap.size 5 1 v (a ++ b).length (n8 (a ++ b)) ∧ Fr (fun _ => False) w0 w' := by
  subst hX hV
  have hF2 : Fr (fun _ => False) W (W'.alloc (.cells #[.slice sa a.length ca, .slice sb b.length cb] T)) := by
    rcases hW with rfl | rfl
    · exact (Fr.refl _ _).alloc _
    · exact ((Fr.refl _ _).drew).alloc _
  have hs : W'.heap.size = W.heap.size := by rcases hW with rfl | rfl <;> rfl
  have hh : (W'.alloc (.cells #[.slice sa a.length ca, .slice sb b.length cb] T)).heap[W.heap.size]? = some (.cells #[.slice sa a.length ca, .slice sb b.length cb] T (0, 0)) := by rw [← hs]; exact heap_alloc_new W' _
  refine (concat2 a b sa sb ca cb _ (ha.fr hF2 (fun _ _ => id)) (hb.fr hF2 (fun _ _ => id)) hla hlb W.heap.size ?_ ?_).mono ?_
  · rw [Lib.cell_of_heap hh]; rfl
  · rw [Lib.cell_of_heap hh]; rfl
  · rintro e w' ⟨v, rfl, hO, hF3⟩
    exact ⟨v, rfl, by rw [List.length_append]; exact own_lower hO (hF.trans hF2).size, (hF.trans hF2).trans hF3⟩
set_option maxRecDepth 100000 in
set_option maxHeartbeats 8000000 in
theorem mac_core (key m : List Nat) (kad : Addr) (mp : Option Addr) (kc mc : Nat) (w : World) (hk : ∀ j v, (n8 key)[j]? = some v → w.cell? (kad.add j) = some v) (hm : Has w mp m) (hkc : key.length ≤ kc) (hmc : m.length ≤ mc) (hk1 : ∀ x ∈ key, x < 256) (hm1 : ∀ x ∈ m, x < 256) (hk0 : 0 < key.length) (hkl : key.length ≤ 64) (hml : m.length ≤ 1000000000) :
    Calls Tryz.prog 154 #[fSha, .slice (some kad) key.length kc, .slice mp m.length mc] w fun e w' => ∃ v, e = .returned v ∧ w'.ownsRow w.heap.size 5 1 v 32 (n8 (shaOf ((padK key).map (· ^^^ 92) ++ shaOf ((padK key).map (· ^^^ 54) ++ m)))) ∧ Fr (fun _ => False) w w' := by
  have d0 : decide (64 < (key.length : Int)) = false := decide_eq_false (by omega)
  have hpl := padK_len hkl
  have hp1 := Lib.hid (padK_lt hk1)
  have hsp := Lib.hid (splice_pad key hkl)
  have hone : ∀ v ∈ n8 key, v.oneCell' = true := by intro u hu; obtain ⟨x, _, rfl⟩ := List.mem_map.1 hu; rfl
  have Hone := Lib.hid hone
  have Hk := Lib.hid hk
  have Hm := Lib.hid hm
  have Hm1 := Lib.hid hm1
  have hnk := Lib.hid (show (n8 key).length = Nat.min key.length 64 by rw [List.length_map]; exact (Nat.min_eq_left hkl).symm)
  have hn64 := Lib.hid (show (n8 (List.replicate 64 0)).length = 64 from rfl)
  have hkb : kad.block < w.heap.size := by
    have h1 := World.block_lt_of_cell? _ _ (hk 0 _ (List.getElem?_eq_getElem (by simpa using hk0)))
    rwa [add_block] at h1
  have hnl := Lib.hid (show (n8 key).length = key.length from List.length_map ..)
  clear hk hm hm1 hk1 hone
  go_enter Tryz.func154, Tryz.ntmps154
  go_wp2_with (first
    | ((with_reducible refine at_dst (N := 18) rfl ?_); refine wpList_copy_fr rfl (.tmp 16) (.tmp 17) 37 37 rfl 5 (by kernel_rfl) (by kernel_rfl) w.heap.size 0 64 64 kad key.length kc rfl rfl (n8 (List.replicate 64 0)) 146 ((Below.heap_alloc _ _ _ (by simp)).trans (heap_alloc_new w _)) (n8 key) hnk.out (fun j v hv => (((Fr.refl (fun _ => False) w).alloc _).alloc _).cell (Hk.out j v hv) id) (by rw [hn64.out, hnl.out]; omega) Hone.out ?_; rw [hsp.out]; intro W1 HG1 hF1; have hGB := Lib.hid (hF1.heap (alloc2_new _ _ _) (by show ¬ _ = _; omega)); have HF1 := Lib.hid hF1; have hsrc := Lib.hid (fun j v hv => hF1.cell ((((Fr.refl (fun _ => False) w).alloc _).alloc _).cell (Hk.out j v hv) id) (by rw [add_block]; omega)); have hFw := Lib.hid (Fr.then_ (((Fr.refl (fun _ => False) w).alloc _).alloc _) hF1 (fun k hk e => by omega)); clear hF1 HF1)
    | ((with_reducible refine at_dst (N := 21) rfl ?_); refine wpList_copy_fr rfl (.tmp 19) (.tmp 20) 37 37 rfl 5 (by kernel_rfl) (by kernel_rfl) (w.heap.size + 1) 0 64 64 kad key.length kc rfl rfl (n8 (List.replicate 64 0)) 146 hGB.out (n8 key) hnk.out hsrc.out (by rw [hn64.out, hnl.out]; omega) Hone.out ?_; rw [hsp.out]; intro W2 HG2 hF2; have HGA := Lib.hid (hF2.heap HG1.out (by omega)); have HFw := Lib.hid (Fr.then_ hFw.out hF2 (fun k hk e => by omega)); have hlt2 : w.heap.size + 1 < W2.heap.size := block_lt HG2.out; clear hF2 hFw hsrc hGB HG1))
  clear Hk Hone hnk hn64 hnl hsp
  obtain ⟨P, hP⟩ : ∃ P, padK key = P := ⟨_, rfl⟩
  rw [hP] at hpl hp1 HG2 HGA
  have HP := Lib.hid hP
  clear hP
  have hx0 : Hid (xorK P 54 0 = P ∧ xorK P 92 0 = P) := ⟨by simp [xorK], by simp [xorK]⟩
  generalize hgA : w.heap.size = gA at *
  have HgA := Lib.hid hgA
  clear hgA
  go_loopw [22] (fun i wr => ∃ k : Nat, k ≤ 64 ∧ i = .int .i64 k ∧ Hid (wr.heap[gA]? = some (.cells (n8 (xorK P 54 k)).toArray 146 (0, 0))) ∧ Hid (wr.heap[gA + 1]? = some (.cells (n8 (xorK P 92 k)).toArray 146 (0, 0))) ∧ Hid (Fr (fun _ => False) w wr)) (fun i _ => 64 - (intOf i).toNat)
  case atStart => exact ⟨0, by omega, rfl, by rw [hx0.out.1]; exact HGA, by rw [hx0.out.2]; exact HG2, HFw⟩
  case round =>
    clear HGA HG2 HFw hlt2 hx0
    obtain ⟨k, hk, rfl, hA, hB, hF⟩ := hrel
    by_cases hlt : k < 64
    · have hkP : k < P.length := by omega
      have cA : wr.cell? ⟨gA, k, none⟩ = some (.int .u8 ((P[k] : Nat) : Int)) := (cell_of_row wr gA k _ _ _ hA.out).trans (by rw [List.getElem?_toArray, List.getElem?_map, xorK_at hkP]; rfl)
      have cB : wr.cell? ⟨gA + 1, k, none⟩ = some (.int .u8 ((P[k] : Nat) : Int)) := (cell_of_row wr (gA + 1) k _ _ _ hB.out).trans (by rw [List.getElem?_toArray, List.getElem?_map, xorK_at hkP]; rfl)
      have fA : wr.frozen? ⟨gA, k, none⟩ = false := Lib.frozen_of_heap hA.out k
      have fB : wr.frozen? ⟨gA + 1, k, none⟩ = false := Lib.frozen_of_heap hB.out k
      have hpk := hp1.out P[k] (List.getElem_mem hkP)
      have x1 : Go.bits .xor .u8 ((P[k] : Nat) : Int) 54 = ((P[k] ^^^ 54 : Nat) : Int) := Sha.xor_nat (k := .u8) rfl (a := P[k]) (b := 54) hpk (by decide)
      have x2 : Go.bits .xor .u8 ((P[k] : Nat) : Int) 92 = ((P[k] ^^^ 92 : Nat) : Int) := Sha.xor_nat (k := .u8) rfl (a := P[k]) (b := 92) hpk (by decide)
      have hnext : Hid ((((wr.setCell ⟨gA, k, none⟩ (.int .u8 ((P[k] ^^^ 54 : Nat) : Int))).setCell ⟨gA + 1, k, none⟩ (.int .u8 ((P[k] ^^^ 92 : Nat) : Int))).heap[gA]? = some (.cells (n8 (xorK P 54 (k + 1))).toArray 146 (0, 0))) ∧ (((wr.setCell ⟨gA, k, none⟩ (.int .u8 ((P[k] ^^^ 54 : Nat) : Int))).setCell ⟨gA + 1, k, none⟩ (.int .u8 ((P[k] ^^^ 92 : Nat) : Int))).heap[gA + 1]? = some (.cells (n8 (xorK P 92 (k + 1))).toArray 146 (0, 0))) ∧ Fr (fun _ => False) w ((wr.setCell ⟨gA, k, none⟩ (.int .u8 ((P[k] ^^^ 54 : Nat) : Int))).setCell ⟨gA + 1, k, none⟩ (.int .u8 ((P[k] ^^^ 92 : Nat) : Int)))) := by
        refine ⟨?_, ?_, ?_⟩
        · rw [Below.heap_setCell _ _ _ gA (by show gA ≠ gA + 1; omega), heap_setCell hA.out, List.setIfInBounds_toArray, ← xorK_set hkP]
          rw [show (n8 (xorK P 54 k)).set k (.int .u8 ((P[k] ^^^ 54 : Nat) : Int)) = n8 ((xorK P 54 k).set k (P[k] ^^^ 54)) from (List.map_set ..).symm]
        · rw [heap_setCell (show (wr.setCell ⟨gA, k, none⟩ (.int .u8 ((P[k] ^^^ 54 : Nat) : Int))).heap[gA + 1]? = _ from (Below.heap_setCell _ _ _ (gA + 1) (by show gA + 1 ≠ gA; omega)).trans hB.out), List.setIfInBounds_toArray, ← xorK_set hkP]
          rw [show (n8 (xorK P 92 k)).set k (.int .u8 ((P[k] ^^^ 92 : Nat) : Int)) = n8 ((xorK P 92 k).set k (P[k] ^^^ 92)) from (List.map_set ..).symm]
        · have hgg := HgA.out
          exact (hF.out.setCell _ _ (fun h => by dsimp only at h; omega)).setCell _ _ (fun h => by dsimp only at h; omega)
      generalize P[k] ^^^ 54 = v1 at *
      generalize P[k] ^^^ 92 = v2 at *
      generalize P[k] = p at *
      go_wp2
      go_roundw
      case rel => exact ⟨k + 1, by omega, by go_num, hnext.out.1, hnext.out.2.1, hnext.out.2.2⟩
      case measure => simp [intOf]; omega
    · obtain rfl : k = 64 := by omega
      have e1 := xorK_end P 54
      have e2 := xorK_end P 92
      rw [hpl] at e1 e2
      rw [e1] at hA
      rw [e2] at hB
      clear e1 e2 hlt hk
      obtain ⟨A1, hA1⟩ : ∃ A1, List.map (fun x => x ^^^ 54) P = A1 := ⟨_, rfl⟩
      obtain ⟨B1, hB1⟩ : ∃ B1, List.map (fun x => x ^^^ 92) P = B1 := ⟨_, rfl⟩
      have lA : A1.length = 64 := by rw [← hA1, List.length_map, hpl]
      have lB : B1.length = 64 := by rw [← hB1, List.length_map, hpl]
      have bA : ∀ x ∈ A1, x < 256 := by rw [← hA1]; intro x hx; obtain ⟨y, hy, rfl⟩ := List.mem_map.1 hx; exact xor_lt (hp1.out y hy) (by decide)
      have bB : ∀ x ∈ B1, x < 256 := by rw [← hB1]; intro x hx; obtain ⟨y, hy, rfl⟩ := List.mem_map.1 hx; exact xor_lt (hp1.out y hy) (by decide)
      rw [hA1] at hA
      rw [hB1] at hB
      have HRES : Hid (shaOf ((padK key).map (· ^^^ 92) ++ shaOf ((padK key).map (· ^^^ 54) ++ m)) = shaOf (B1 ++ shaOf (A1 ++ m))) := by show _ = _; rw [HP.out, hA1, hB1]
      have hmr := Hm.out.fr hF.out (fun _ _ => id)
      have bAM : ∀ x ∈ A1 ++ m, x < 256 := fun x hx => by rcases List.mem_append.1 hx with h | h; exact bA x h; exact Hm1.out x h
      have lAM : (A1 ++ m).length < 2 ^ 60 := by rw [List.length_append, lA]; omega
      have cat1 : Calls Tryz.prog 174 #[.slice (some ⟨wr.heap.size, 0, none⟩) 2 2] (wr.alloc (.cells #[.slice (some ⟨gA, 0, none⟩) 64 64, .slice mp m.length mc] 37)).drew fun e w' => ∃ v, e = .returned v ∧ w'.ownsRow wr.heap.size 5 1 v (A1 ++ m).length (n8 (A1 ++ m)) ∧ Fr (fun _ => False) wr w' :=
        cat_own A1 m (some ⟨gA, 0, none⟩) mp 64 mc wr wr wr.drew (.inr rfl) (has_heap hA.out) hmr (by omega) (by omega) (Fr.refl _ _) 37 (.slice (some ⟨wr.heap.size, 0, none⟩) 2 2) rfl _ (by rw [lA]; rfl)
      obtain ⟨AM, hAM⟩ : ∃ AM, A1 ++ m = AM := ⟨_, rfl⟩
      rw [hAM] at cat1 bAM lAM HRES
      have sha1 := fun W base v hO hF' => sha_own AM lAM bAM wr W base v hO hF'
      have bS := sha_lt AM
      obtain ⟨S1, hS1⟩ : ∃ S1, shaOf AM = S1 := ⟨_, rfl⟩
      have lS : S1.length = 32 := by rw [← hS1]; rfl
      rw [hS1] at sha1 bS HRES
      have cat2 : ∀ (W : World) sp cap, Fr (fun _ => False) wr W → Has W sp S1 → Calls Tryz.prog 174 #[.slice (some ⟨W.heap.size, 0, none⟩) 2 2] (W.alloc (.cells #[.slice (some ⟨gA + 1, 0, none⟩) 64 64, .slice sp S1.length cap] 37)) fun e w' => ∃ v, e = .returned v ∧ w'.ownsRow wr.heap.size 5 1 v (B1 ++ S1).length (n8 (B1 ++ S1)) ∧ Fr (fun _ => False) wr w' := fun W sp cap hF' hh =>
        cat_own B1 S1 (some ⟨gA + 1, 0, none⟩) sp 64 cap wr W W (.inl rfl) (has_heap (hF'.heap hB.out id)) hh (by omega) (by omega) hF' 37 (.slice (some ⟨W.heap.size, 0, none⟩) 2 2) rfl _ (by rw [lB])
      have bBS : ∀ x ∈ B1 ++ S1, x < 256 := fun x hx => by rcases List.mem_append.1 hx with h | h; exact bB x h; exact bS x h
      have lBS : (B1 ++ S1).length < 2 ^ 60 := by rw [List.length_append, lB, lS]; decide
      obtain ⟨BS, hBS⟩ : ∃ BS, B1 ++ S1 = BS := ⟨_, rfl⟩
      rw [hBS] at cat2 bBS lBS HRES
      have sha2 := fun W base v hO hF' => sha_own BS lBS bBS wr W base v hO hF'
      have lR : (shaOf BS).length = 32 := rfl
      obtain ⟨RS, hRS⟩ : ∃ RS, shaOf BS = RS := ⟨_, rfl⟩
      rw [hRS] at sha2 HRES lR
      have LR := Lib.hid lR
      clear hpl hp1 HP hA1 hB1 hkb hkc hmc hk0 hkl Hm d0 lA lB bA bB bAM lAM hAM bS hS1 lS bBS lBS hBS hRS hmr lR hA hB Hm1
      go_wp2_with fail
      go_region_held3 (fun w' => Fr (fun _ => False) wr w') ((first | assumption | exact Fr.refl _ _ | exact (Fr.refl _ _).drew | exact Fr.drew (by assumption) | exact Fr.alloc (by assumption) _ | exact Fr.drew (Fr.alloc (by assumption) _) | exact ((Fr.refl _ _).alloc _).drew)) (first
        | (go_at_call 174; (with_reducible refine cat1.mono ?_); rintro e w2 ⟨v2, rfl, hO2, hS2⟩; obtain ⟨sp2, cap2, rfl, hc2, hh2⟩ := own_has hO2)
        | (go_at_call 63; (with_reducible refine (sha1 _ wr.heap.size _ (by assumption) (by assumption)).mono ?_); rintro e w3 ⟨v3, rfl, hO3, hS3⟩; obtain ⟨sp3, cap3, rfl, hc3, hh3⟩ := own_has hO3)
        | (go_at_call 174; (with_reducible refine (cat2 _ _ _ (by assumption) (by assumption)).mono ?_); rintro e w4 ⟨v4, rfl, hO4, hS4⟩; obtain ⟨sp4, cap4, rfl, hc4, hh4⟩ := own_has hO4)
        | (go_at_call 63; (with_reducible refine (sha2 _ wr.heap.size _ (by assumption) (by assumption)).mono ?_); rintro e w5 ⟨v5, rfl, hO5, hS5⟩))
      go_wp2
      go_ret
      rw [HRES.out]
      exact ⟨v5, rfl, by rw [← LR.out]; exact own_lower hO5 hF.out.size, hF.out.trans hS5⟩
theorem own32 {w : World} {base : Nat} {v : Value} {l : List Nat} (h : w.ownsRow base 5 1 v 32 (n8 l)) : ∃ g cap, v = .slice (some ⟨g, 0, none⟩) 32 cap ∧ 32 ≤ cap ∧ ∀ j u, (n8 l)[j]? = some u → w.cell? ((⟨g, 0, none⟩ : Addr).add j) = some u := by
  rcases h.2 with ⟨rfl, h0⟩ | ⟨g, cap, cur, rfl, hg, hh, hcap, _⟩
  · omega
  · exact ⟨g, cap, rfl, hcap, fun j u hj => h.cells (g := g) rfl j u hj⟩
set_option maxRecDepth 100000 in
set_option maxHeartbeats 8000000 in
theorem mac_long (K m : List Nat) (Kp mp : Option Addr) (Kc mc : Nat) (w : World) (hKh : Has w Kp K) (hm : Has w mp m) (hKc : K.length ≤ Kc) (hmc : m.length ≤ mc) (hK1 : ∀ x ∈ K, x < 256) (hm1 : ∀ x ∈ m, x < 256) (hK0 : 64 < K.length) (hKl : K.length ≤ 1000000000) (hml : m.length ≤ 1000000000) :
    Calls Tryz.prog 154 #[fSha, .slice Kp K.length Kc, .slice mp m.length mc] w fun e w' => ∃ v, e = .returned v ∧ w'.ownsRow w.heap.size 5 1 v 32 (n8 (shaOf ((padK (shaOf K)).map (· ^^^ 92) ++ shaOf ((padK (shaOf K)).map (· ^^^ 54) ++ m)))) ∧ Fr (fun _ => False) w w' := by
  have d0 : decide (64 < (K.length : Int)) = true := decide_eq_true (by omega)
  have hsh := sha256 K hK1 (by omega) Kp Kc hKc w hKh
  obtain ⟨key, hkey⟩ : ∃ key, shaOf K = key := ⟨_, rfl⟩
  have HKEY := Lib.hid hkey
  have hk1 : ∀ x ∈ key, x < 256 := by rw [← hkey]; exact sha_lt K
  have hkl : key.length = 32 := by rw [← hkey]; rfl
  rw [hkey] at hsh
  have hpl := padK_len (k := key) (by omega)
  have hp1 := Lib.hid (padK_lt hk1)
  have hsp := Lib.hid (splice_pad key (by omega))
  have hone : ∀ v ∈ n8 key, v.oneCell' = true := by intro u hu; obtain ⟨x, _, rfl⟩ := List.mem_map.1 hu; rfl
  have Hone := Lib.hid hone
  have Hm0 := Lib.hid hm
  have Hm1 := Lib.hid hm1
  have hnk := Lib.hid (show (n8 key).length = Nat.min 32 64 by rw [List.length_map, hkl]; rfl)
  have hn64 := Lib.hid (show (n8 (List.replicate 64 0)).length = 64 from rfl)
  have hnl := Lib.hid (show (n8 key).length = 32 by rw [List.length_map, hkl])
  have HKL := Lib.hid hkl
  clear hm hm1 hk1 hone hKh hK1 hkey hkl
  go_enter Tryz.func154, Tryz.ntmps154
  go_wp2_with (first
    | (go_at_call 63; (with_reducible refine hsh.mono ?_); rintro e w1 ⟨v1, rfl, hO1, hF01⟩; obtain ⟨kg, kc, rfl, hkc, hkx⟩ := own32 hO1; have Hk := Lib.hid hkx; have hkb : (⟨kg, 0, none⟩ : Addr).block < w1.heap.size := (by have h1 := World.block_lt_of_cell? _ _ (hkx 0 _ (List.getElem?_eq_getElem (by rw [hnl.out]; decide))); rwa [add_block] at h1); have Hm := Lib.hid (Hm0.out.fr hF01 (fun _ _ => id)); have HF01 := Lib.hid hF01; clear hO1 hF01 hkx hsh; generalize hkad : (⟨kg, 0, none⟩ : Addr) = kad at *; clear hkad)
    | ((with_reducible refine at_dst (N := 18) rfl ?_); refine wpList_copy_fr rfl (.tmp 16) (.tmp 17) 37 37 rfl 5 (by kernel_rfl) (by kernel_rfl) w1.heap.size 0 64 64 kad 32 kc rfl rfl (n8 (List.replicate 64 0)) 146 ((Below.heap_alloc _ _ _ (by simp)).trans (heap_alloc_new w1 _)) (n8 key) hnk.out (fun j v hv => (((Fr.refl (fun _ => False) w1).alloc _).alloc _).cell (Hk.out j v hv) id) (by rw [hn64.out, hnl.out]; omega) Hone.out ?_; rw [hsp.out]; intro W1 HG1 hF1; have hGB := Lib.hid (hF1.heap (alloc2_new _ _ _) (by show ¬ _ = _; omega)); have HF1 := Lib.hid hF1; have hsrc := Lib.hid (fun j v hv => hF1.cell ((((Fr.refl (fun _ => False) w1).alloc _).alloc _).cell (Hk.out j v hv) id) (by rw [add_block]; omega)); have hFw := Lib.hid (Fr.then_ (((Fr.refl (fun _ => False) w1).alloc _).alloc _) hF1 (fun k hk e => by omega)); clear hF1 HF1)
    | ((with_reducible refine at_dst (N := 21) rfl ?_); refine wpList_copy_fr rfl (.tmp 19) (.tmp 20) 37 37 rfl 5 (by kernel_rfl) (by kernel_rfl) (w1.heap.size + 1) 0 64 64 kad 32 kc rfl rfl (n8 (List.replicate 64 0)) 146 hGB.out (n8 key) hnk.out hsrc.out (by rw [hn64.out, hnl.out]; omega) Hone.out ?_; rw [hsp.out]; intro W2 HG2 hF2; have HGA := Lib.hid (hF2.heap HG1.out (by omega)); have HFw := Lib.hid (Fr.then_ hFw.out hF2 (fun k hk e => by omega)); have hlt2 : w1.heap.size + 1 < W2.heap.size := block_lt HG2.out; clear hF2 hFw hsrc hGB HG1))
  clear Hk Hone hnk hn64 hnl hsp
  obtain ⟨P, hP⟩ : ∃ P, padK key = P := ⟨_, rfl⟩
  rw [hP] at hpl hp1 HG2 HGA
  have HP := Lib.hid hP
  clear hP
  have hx0 : Hid (xorK P 54 0 = P ∧ xorK P 92 0 = P) := ⟨by simp [xorK], by simp [xorK]⟩
  generalize hgA : w1.heap.size = gA at *
  have HgA := Lib.hid hgA
  clear hgA
  go_loopw [22] (fun i wr => ∃ k : Nat, k ≤ 64 ∧ i = .int .i64 k ∧ Hid (wr.heap[gA]? = some (.cells (n8 (xorK P 54 k)).toArray 146 (0, 0))) ∧ Hid (wr.heap[gA + 1]? = some (.cells (n8 (xorK P 92 k)).toArray 146 (0, 0))) ∧ Hid (Fr (fun _ => False) w1 wr)) (fun i _ => 64 - (intOf i).toNat)
  case atStart => exact ⟨0, by omega, rfl, by rw [hx0.out.1]; exact HGA, by rw [hx0.out.2]; exact HG2, HFw⟩
  case round =>
    clear HGA HG2 HFw hlt2 hx0
    obtain ⟨k, hk, rfl, hA, hB, hF⟩ := hrel
    by_cases hlt : k < 64
    · have hkP : k < P.length := by omega
      have cA : wr.cell? ⟨gA, k, none⟩ = some (.int .u8 ((P[k] : Nat) : Int)) := (cell_of_row wr gA k _ _ _ hA.out).trans (by rw [List.getElem?_toArray, List.getElem?_map, xorK_at hkP]; rfl)
      have cB : wr.cell? ⟨gA + 1, k, none⟩ = some (.int .u8 ((P[k] : Nat) : Int)) := (cell_of_row wr (gA + 1) k _ _ _ hB.out).trans (by rw [List.getElem?_toArray, List.getElem?_map, xorK_at hkP]; rfl)
      have fA : wr.frozen? ⟨gA, k, none⟩ = false := Lib.frozen_of_heap hA.out k
      have fB : wr.frozen? ⟨gA + 1, k, none⟩ = false := Lib.frozen_of_heap hB.out k
      have hpk := hp1.out P[k] (List.getElem_mem hkP)
      have x1 : Go.bits .xor .u8 ((P[k] : Nat) : Int) 54 = ((P[k] ^^^ 54 : Nat) : Int) := Sha.xor_nat (k := .u8) rfl (a := P[k]) (b := 54) hpk (by decide)
      have x2 : Go.bits .xor .u8 ((P[k] : Nat) : Int) 92 = ((P[k] ^^^ 92 : Nat) : Int) := Sha.xor_nat (k := .u8) rfl (a := P[k]) (b := 92) hpk (by decide)
      have hnext : Hid ((((wr.setCell ⟨gA, k, none⟩ (.int .u8 ((P[k] ^^^ 54 : Nat) : Int))).setCell ⟨gA + 1, k, none⟩ (.int .u8 ((P[k] ^^^ 92 : Nat) : Int))).heap[gA]? = some (.cells (n8 (xorK P 54 (k + 1))).toArray 146 (0, 0))) ∧ (((wr.setCell ⟨gA, k, none⟩ (.int .u8 ((P[k] ^^^ 54 : Nat) : Int))).setCell ⟨gA + 1, k, none⟩ (.int .u8 ((P[k] ^^^ 92 : Nat) : Int))).heap[gA + 1]? = some (.cells (n8 (xorK P 92 (k + 1))).toArray 146 (0, 0))) ∧ Fr (fun _ => False) w1 ((wr.setCell ⟨gA, k, none⟩ (.int .u8 ((P[k] ^^^ 54 : Nat) : Int))).setCell ⟨gA + 1, k, none⟩ (.int .u8 ((P[k] ^^^ 92 : Nat) : Int)))) := by
        refine ⟨?_, ?_, ?_⟩
        · rw [Below.heap_setCell _ _ _ gA (by show gA ≠ gA + 1; omega), heap_setCell hA.out, List.setIfInBounds_toArray, ← xorK_set hkP]
          rw [show (n8 (xorK P 54 k)).set k (.int .u8 ((P[k] ^^^ 54 : Nat) : Int)) = n8 ((xorK P 54 k).set k (P[k] ^^^ 54)) from (List.map_set ..).symm]
        · rw [heap_setCell (show (wr.setCell ⟨gA, k, none⟩ (.int .u8 ((P[k] ^^^ 54 : Nat) : Int))).heap[gA + 1]? = _ from (Below.heap_setCell _ _ _ (gA + 1) (by show gA + 1 ≠ gA; omega)).trans hB.out), List.setIfInBounds_toArray, ← xorK_set hkP]
          rw [show (n8 (xorK P 92 k)).set k (.int .u8 ((P[k] ^^^ 92 : Nat) : Int)) = n8 ((xorK P 92 k).set k (P[k] ^^^ 92)) from (List.map_set ..).symm]
        · have hgg := HgA.out
          exact (hF.out.setCell _ _ (fun h => by dsimp only at h; omega)).setCell _ _ (fun h => by dsimp only at h; omega)
      generalize P[k] ^^^ 54 = v1 at *
      generalize P[k] ^^^ 92 = v2 at *
      generalize P[k] = p at *
      go_wp2
      go_roundw
      case rel => exact ⟨k + 1, by omega, by go_num, hnext.out.1, hnext.out.2.1, hnext.out.2.2⟩
      case measure => simp [intOf]; omega
    · obtain rfl : k = 64 := by omega
      have e1 := xorK_end P 54
      have e2 := xorK_end P 92
      rw [hpl] at e1 e2
      rw [e1] at hA
      rw [e2] at hB
      clear e1 e2 hlt hk
      obtain ⟨A1, hA1⟩ : ∃ A1, List.map (fun x => x ^^^ 54) P = A1 := ⟨_, rfl⟩
      obtain ⟨B1, hB1⟩ : ∃ B1, List.map (fun x => x ^^^ 92) P = B1 := ⟨_, rfl⟩
      have lA : A1.length = 64 := by rw [← hA1, List.length_map, hpl]
      have lB : B1.length = 64 := by rw [← hB1, List.length_map, hpl]
      have bA : ∀ x ∈ A1, x < 256 := by rw [← hA1]; intro x hx; obtain ⟨y, hy, rfl⟩ := List.mem_map.1 hx; exact xor_lt (hp1.out y hy) (by decide)
      have bB : ∀ x ∈ B1, x < 256 := by rw [← hB1]; intro x hx; obtain ⟨y, hy, rfl⟩ := List.mem_map.1 hx; exact xor_lt (hp1.out y hy) (by decide)
      rw [hA1] at hA
      rw [hB1] at hB
      have HRES : Hid (shaOf ((padK (shaOf K)).map (· ^^^ 92) ++ shaOf ((padK (shaOf K)).map (· ^^^ 54) ++ m)) = shaOf (B1 ++ shaOf (A1 ++ m))) := by show _ = _; rw [HKEY.out, HP.out, hA1, hB1]
      have hmr := Hm.out.fr hF.out (fun _ _ => id)
      have bAM : ∀ x ∈ A1 ++ m, x < 256 := fun x hx => by rcases List.mem_append.1 hx with h | h; exact bA x h; exact Hm1.out x h
      have lAM : (A1 ++ m).length < 2 ^ 60 := by rw [List.length_append, lA]; omega
      have cat1 : Calls Tryz.prog 174 #[.slice (some ⟨wr.heap.size, 0, none⟩) 2 2] (wr.alloc (.cells #[.slice (some ⟨gA, 0, none⟩) 64 64, .slice mp m.length mc] 37)).drew fun e w1' => ∃ v, e = .returned v ∧ w1'.ownsRow wr.heap.size 5 1 v (A1 ++ m).length (n8 (A1 ++ m)) ∧ Fr (fun _ => False) wr w1' :=
        cat_own A1 m (some ⟨gA, 0, none⟩) mp 64 mc wr wr wr.drew (.inr rfl) (has_heap hA.out) hmr (by omega) (by omega) (Fr.refl _ _) 37 (.slice (some ⟨wr.heap.size, 0, none⟩) 2 2) rfl _ (by rw [lA]; rfl)
      obtain ⟨AM, hAM⟩ : ∃ AM, A1 ++ m = AM := ⟨_, rfl⟩
      rw [hAM] at cat1 bAM lAM HRES
      have sha1 := fun W base v hO hF' => sha_own AM lAM bAM wr W base v hO hF'
      have bS := sha_lt AM
      obtain ⟨S1, hS1⟩ : ∃ S1, shaOf AM = S1 := ⟨_, rfl⟩
      have lS : S1.length = 32 := by rw [← hS1]; rfl
      rw [hS1] at sha1 bS HRES
      have cat2 : ∀ (W : World) sp cap, Fr (fun _ => False) wr W → Has W sp S1 → Calls Tryz.prog 174 #[.slice (some ⟨W.heap.size, 0, none⟩) 2 2] (W.alloc (.cells #[.slice (some ⟨gA + 1, 0, none⟩) 64 64, .slice sp S1.length cap] 37)) fun e w1' => ∃ v, e = .returned v ∧ w1'.ownsRow wr.heap.size 5 1 v (B1 ++ S1).length (n8 (B1 ++ S1)) ∧ Fr (fun _ => False) wr w1' := fun W sp cap hF' hh =>
        cat_own B1 S1 (some ⟨gA + 1, 0, none⟩) sp 64 cap wr W W (.inl rfl) (has_heap (hF'.heap hB.out id)) hh (by omega) (by omega) hF' 37 (.slice (some ⟨W.heap.size, 0, none⟩) 2 2) rfl _ (by rw [lB])
      have bBS : ∀ x ∈ B1 ++ S1, x < 256 := fun x hx => by rcases List.mem_append.1 hx with h | h; exact bB x h; exact bS x h
      have lBS : (B1 ++ S1).length < 2 ^ 60 := by rw [List.length_append, lB, lS]; decide
      obtain ⟨BS, hBS⟩ : ∃ BS, B1 ++ S1 = BS := ⟨_, rfl⟩
      rw [hBS] at cat2 bBS lBS HRES
      have sha2 := fun W base v hO hF' => sha_own BS lBS bBS wr W base v hO hF'
      have lR : (shaOf BS).length = 32 := rfl
      obtain ⟨RS, hRS⟩ : ∃ RS, shaOf BS = RS := ⟨_, rfl⟩
      rw [hRS] at sha2 HRES lR
      have LR := Lib.hid lR
      clear hpl hp1 HP hA1 hB1 hkb hkc hmc Hm lA lB bA bB bAM lAM hAM bS hS1 lS bBS lBS hBS hRS hmr lR hA hB Hm1
      go_wp2_with fail
      go_region_held3 (fun w1' => Fr (fun _ => False) wr w1') ((first | assumption | exact Fr.refl _ _ | exact (Fr.refl _ _).drew | exact Fr.drew (by assumption) | exact Fr.alloc (by assumption) _ | exact Fr.drew (Fr.alloc (by assumption) _) | exact ((Fr.refl _ _).alloc _).drew)) (first
        | (go_at_call 174; (with_reducible refine cat1.mono ?_); rintro e w2 ⟨v2, rfl, hO2, hS2⟩; obtain ⟨sp2, cap2, rfl, hc2, hh2⟩ := own_has hO2)
        | (go_at_call 63; (with_reducible refine (sha1 _ wr.heap.size _ (by assumption) (by assumption)).mono ?_); rintro e w3 ⟨v3, rfl, hO3, hS3⟩; obtain ⟨sp3, cap3, rfl, hc3, hh3⟩ := own_has hO3)
        | (go_at_call 174; (with_reducible refine (cat2 _ _ _ (by assumption) (by assumption)).mono ?_); rintro e w4 ⟨v4, rfl, hO4, hS4⟩; obtain ⟨sp4, cap4, rfl, hc4, hh4⟩ := own_has hO4)
        | (go_at_call 63; (with_reducible refine (sha2 _ wr.heap.size _ (by assumption) (by assumption)).mono ?_); rintro e w5 ⟨v5, rfl, hO5, hS5⟩))
      go_wp2
      go_ret
      rw [HRES.out]
      exact ⟨v5, rfl, by rw [← LR.out]; exact own_lower hO5 (HF01.out.trans hF.out).size, (HF01.out.trans hF.out).trans hS5⟩
theorem mac_any (key m : List Nat) (kp mp : Option Addr) (kc mc : Nat) (w : World) (hk : Has w kp key) (hm : Has w mp m) (hkc : key.length ≤ kc) (hmc : m.length ≤ mc) (hk1 : ∀ x ∈ key, x < 256) (hm1 : ∀ x ∈ m, x < 256) (hk0 : 0 < key.length) (hkl : key.length ≤ 1000000000) (hml : m.length ≤ 1000000000) :
    Calls Tryz.prog 154 #[fSha, .slice kp key.length kc, .slice mp m.length mc] w fun e w' => ∃ v, e = .returned v ∧ w'.ownsRow w.heap.size 5 1 v 32 (n8 (macN key m)) ∧ Fr (fun _ => False) w w' := by
  unfold macN macK
  by_cases h : 64 < key.length
  · rw [if_pos h]
    exact mac_long key m kp mp kc mc w hk hm hkc hmc hk1 hm1 h hkl hml
  · rw [if_neg h]
    obtain ⟨ad, rfl, hc⟩ := hk hk0
    exact mac_core key m ad mp kc mc w hc hm hkc hmc hk1 hm1 hk0 (by omega) hml
end Go.Proofs.YtghcadbmjglidaaGreatDoor
end
section
set_option linter.unusedVariables false
namespace Go.Proofs.YtghcadbmjglidaaGreatDoor
open Go.RowKit
set_option maxHeartbeats 1000000 in
theorem hmac_any (key m : List Nat) (kp mp : Option Addr) (kc mc : Nat) (w : World) (hk : Has w kp key) (hm : Has w mp m) (hkc : key.length ≤ kc) (hmc : m.length ≤ mc) (hk1 : ∀ x ∈ key, x < 256) (hm1 : ∀ x ∈ m, x < 256) (hk0 : 0 < key.length) (hkl : key.length ≤ 1000000000) (hml : m.length ≤ 1000000000) :
    Calls Tryz.prog 109 #[.slice kp key.length kc, .slice mp m.length mc] w fun e w' => ∃ v, e = .returned v ∧ w'.ownsRow w.heap.size 5 1 v 32 (n8 (macN key m)) ∧ Fr (fun _ => False) w w' := by
  have h := mac_any key m kp mp kc mc w hk hm hkc hmc hk1 hm1 hk0 hkl hml
  clear hk hm hk1 hm1
  go_enter Tryz.func109, Tryz.ntmps109
  go_wp2_with (go_at_call 154; (with_reducible refine h.mono ?_); rintro e w' ⟨v, rfl, hO, hF⟩)
  go_ret
  exact ⟨v, rfl, hO, hF⟩
def nb (l : List UInt8) : List Nat := l.map UInt8.toNat
theorem nb_lt (l : List UInt8) : ∀ x ∈ nb l, x < 256 := by
  intro x hx
  obtain ⟨c, _, rfl⟩ := List.mem_map.1 hx
  exact c.toNat_lt
theorem nb_len (l : List UInt8) : (nb l).length = l.length := List.length_map ..
theorem conv_has (W : World) (l : List UInt8) : Has (Lib.bytesWorld W 5 ⟨l.toArray⟩) (some ⟨W.heap.size, 0, none⟩) (nb l) := fun _ => ⟨_, rfl, fun j v hv => by
  rw [addr_add0]
  rw [show n8 (nb l) = l.map (fun c => Value.int .u8 ((c.toNat : Nat) : Int)) from List.map_map .., List.getElem?_map] at hv
  cases hj : l[j]? with
  | none => rw [hj] at hv; cases hv
  | some c =>
    rw [hj] at hv
    have hlt := (List.getElem?_eq_some_iff.1 hj).1
    have := Lib.bytesWorld_cell W 5 ⟨l.toArray⟩ j hlt
    have h2 : (⟨l.toArray⟩ : ByteArray).data.toList.getD j 0 = c := by
      show l.getD j 0 = c
      rw [List.getD_eq_getElem?_getD, hj]; rfl
    rw [h2] at this
    rw [← Option.some.inj hv]
    exact this⟩
def chainN (k : List Nat) (ps : List (List UInt8)) : List Nat := ps.foldl (fun k p => macN k (nb p)) k
theorem macN_len (k m : List Nat) : (macN k m).length = 32 := rfl
theorem macN_lt (k m : List Nat) : ∀ x ∈ macN k m, x < 256 := sha_lt _
theorem chainN_succ (k : List Nat) (ps : List (List UInt8)) (i : Nat) (h : i < ps.length) : chainN k (ps.take (i + 1)) = macN (chainN k (ps.take i)) (nb (ps.getD i [])) := by
  unfold chainN
  rw [List.take_succ_eq_append_getElem h, List.foldl_append, List.getD_eq_getElem?_getD, List.getElem?_eq_getElem h]
  rfl
def KeySt (w0 : World) (k : Nat) (K : List Nat) (v : Value) (w : World) : Prop :=
  (∃ sp cap, v = .slice sp K.length cap ∧ K.length ≤ cap ∧ Has w sp K) ∧ 0 < K.length ∧ K.length ≤ 1000000000 ∧ (∀ x ∈ K, x < 256) ∧ Fr (fun _ => False) w0 w ∧ (0 < k → w.ownsRow w0.heap.size 5 1 v 32 (n8 K))
set_option maxRecDepth 100000 in
set_option maxHeartbeats 4000000 in
theorem chain_any (K0 : List Nat) (ps : List (List UInt8)) (sp : Option Addr) (cap pc : Nat) (pg : Nat) (w : World) (hK : Has w sp K0) (hc : K0.length ≤ cap) (h0 : 0 < K0.length) (hl : K0.length ≤ 1000000000) (hx : ∀ x ∈ K0, x < 256)
    (hp : ∀ i, i < ps.length → w.cell? ⟨pg, i, none⟩ = some (str (ps.getD i []))) (hpl : ∀ p ∈ ps, p.length ≤ 1000000000) (hp0 : 0 < ps.length) (hpn : ps.length ≤ 100) :
    Calls Tryz.prog 64 #[.slice sp K0.length cap, .slice (some ⟨pg, 0, none⟩) ps.length pc] w fun e w' => ∃ v, e = .returned v ∧ w'.ownsRow w.heap.size 5 1 v 32 (n8 (chainN K0 ps)) ∧ Fr (fun _ => False) w w' := by
  have hst : Hid (KeySt w 0 (chainN K0 (ps.take 0)) (.slice sp K0.length cap) w) := ⟨⟨sp, cap, rfl, hc, hK⟩, h0, hl, hx, Fr.refl _ _, fun h => by omega⟩
  have hend : Hid (chainN K0 (ps.take ps.length) = chainN K0 ps) := by show _ = _; rw [List.take_length]
  have hsuc := fun i h => Lib.hid (chainN_succ K0 ps i h)
  have hpl2 : ∀ i, i < ps.length → (ps.getD i []).length ≤ 1000000000 := fun i h => by
    rw [List.getD_eq_getElem?_getD, List.getElem?_eq_getElem h]; exact hpl _ (List.getElem_mem h)
  clear hK hx hpl
  generalize hn : ps.length = n at *
  clear hn
  go_enter Tryz.func64, Tryz.ntmps64
  go_wp2
  go_loopw [0, 9] (fun v i wr => ∃ k : Nat, k ≤ n ∧ i = .int .i64 k ∧ Hid (KeySt w k (chainN K0 (ps.take k)) v wr)) (fun _ i _ => n - (intOf i).toNat)
  case atStart => exact ⟨0, Nat.zero_le _, rfl, hst⟩
  case round =>
    clear hst
    obtain ⟨k, hk, rfl, hS⟩ := hrel
    by_cases hlt : k < n
    · obtain ⟨⟨sp1, cap1, rfl, hc1, hh1⟩, q0, q1, q2, hF, _⟩ := hS.out
      have hcell := hF.cell (hp k hlt) id
      have hsk := hsuc k hlt
      have hpk := hpl2 k hlt
      have HF := Lib.hid hF
      have HH := Lib.hid hh1
      have Q2 := Lib.hid q2
      clear hS hF hh1 q2 hsuc hpl2 hp hend
      generalize ps.getD k [] = p at *
      obtain ⟨K, hKK⟩ : ∃ K, chainN K0 (ps.take k) = K := ⟨_, rfl⟩
      rw [hKK] at hsk q0 q1 hc1 HH Q2 ⊢
      have hconv := fun W => Lib.run_convert_string_bytes (P := Tryz.prog) W 9 37 5 ⟨p.toArray⟩ Tryz.underlying9 Tryz.underlying37 Tryz.underlying5
      have hmac := fun mc (hmc : (nb p).length ≤ mc) => hmac_any K (nb p) sp1 (some ⟨wr.heap.size, 0, none⟩) cap1 mc (Lib.bytesWorld wr 5 ⟨p.toArray⟩) (HH.out.fr ((Fr.refl (fun _ => False) wr).bytesWorld _ _) (fun _ _ => id)) (conv_has wr p) hc1 hmc Q2.out (nb_lt p) q0 q1 (by rw [nb_len]; exact hpk)
      have hcg : (nb p).length ≤ grownCap wr p.length 0 5 := by rw [nb_len]; exact grownCap_ge _ _ _ _
      have hm2 := hmac _ hcg
      rw [nb_len] at hm2
      have hsz : (⟨p.toArray⟩ : ByteArray).size = p.length := rfl
      rw [hsz] at hconv
      clear hmac hcg hsz hKK
      go_wp2_with (go_at_call 109; (with_reducible refine hm2.mono ?_); rintro e w2 ⟨v2, rfl, hO, hF2⟩)
      have hF3 : Fr (fun _ => False) w w2 := (HF.out.bytesWorld _ _).trans hF2
      have hO2 := own_lower hO (HF.out.bytesWorld 5 ⟨p.toArray⟩).size
      obtain ⟨kg, kc2, rfl, hc2, hx2⟩ := own32 hO2
      have hnew : Hid (KeySt w (k + 1) (chainN K0 (ps.take (k + 1))) (.slice (some ⟨kg, 0, none⟩) 32 kc2) w2) := by
        show KeySt _ _ _ _ _
        rw [hsk.out]
        exact ⟨⟨_, kc2, by rw [macN_len], by rw [macN_len]; exact hc2, fun _ => ⟨_, rfl, hx2⟩⟩, by rw [macN_len]; decide, by rw [macN_len]; decide, macN_lt _ _, hF3, fun _ => hO2⟩
      clear hO hF2 hF3 hO2 hx2
      go_roundw
      case rel => exact ⟨k + 1, by omega, by go_num, hnew⟩
      case measure => simp [intOf]; omega
    · obtain rfl : k = n := by omega
      obtain ⟨_, _, _, _, hF, hown⟩ := hS.out
      have HF := Lib.hid hF
      have HO := Lib.hid (hown hp0)
      rw [hend.out] at HO
      clear hS hsuc hpl2 hp hend hF hown
      go_wp2
      go_ret
      exact ⟨_, rfl, HO.out, HF.out⟩
def keyN (s d : List UInt8) : List Nat := chainN ([65, 87, 83, 52] ++ nb s) [d, [108, 111, 99, 97, 108], [115, 51], [97, 119, 115, 52, 95, 114, 101, 113, 117, 101, 115, 116]]
set_option maxRecDepth 100000 in
set_option maxHeartbeats 4000000 in
theorem key_any (s d : List UInt8) (hs : s.length ≤ 1000000) (hd : d.length ≤ 100000000) (w : World) :
    Calls Tryz.prog 65 #[str s, str d] w fun e w' => ∃ v, e = .returned v ∧ w'.ownsRow w.heap.size 5 1 v 32 (n8 (keyN s d)) ∧ Fr (fun _ => False) w w' := by
  have hadd : ∀ W, (Op.stringOp .add ⟨#[65, 87, 83, 52]⟩ ⟨s.toArray⟩).run Tryz.prog W = .ok (.string ⟨([65, 87, 83, 52] ++ s).toArray⟩) W := fun W => run_string_add_lists W [65, 87, 83, 52] s (by decide) (by omega)
  obtain ⟨p, hp⟩ : ∃ p, [65, 87, 83, 52] ++ s = p := ⟨_, rfl⟩
  have hlp : p.length ≤ 1000000000 ∧ 0 < p.length := by rw [← hp]; simp; omega
  have HK := Lib.hid (show keyN s d = chainN (nb p) [d, [108, 111, 99, 97, 108], [115, 51], [97, 119, 115, 52, 95, 114, 101, 113, 117, 101, 115, 116]] by rw [← hp]; unfold keyN nb; rw [List.map_append]; rfl)
  rw [hp] at hadd
  clear hp
  have hconv := fun W => Lib.run_convert_string_bytes (P := Tryz.prog) W 9 37 5 ⟨p.toArray⟩ Tryz.underlying9 Tryz.underlying37 Tryz.underlying5
  have hsz : (⟨p.toArray⟩ : ByteArray).size = p.length := rfl
  rw [hsz] at hconv
  have hcg : (nb p).length ≤ grownCap w p.length 0 5 := by rw [nb_len]; exact grownCap_ge _ _ _ _
  have hch := fun (V : World) (hV : V = (Lib.bytesWorld w 5 ⟨p.toArray⟩).alloc (.cells #[str d, str [108, 111, 99, 97, 108], str [115, 51], str [97, 119, 115, 52, 95, 114, 101, 113, 117, 101, 115, 116]] 9)) => chain_any (nb p) [d, [108, 111, 99, 97, 108], [115, 51], [97, 119, 115, 52, 95, 114, 101, 113, 117, 101, 115, 116]] (some ⟨w.heap.size, 0, none⟩) _ 4 (w.heap.size + 1) V
    (by rw [hV]; exact (conv_has w p).fr ((Fr.refl (fun _ => False) _).alloc _) (fun _ _ => id)) hcg (by rw [nb_len]; exact hlp.2) (by rw [nb_len]; exact hlp.1) (nb_lt p)
    (fun i hi => by
      rw [hV]
      have hb : ((Lib.bytesWorld w 5 ⟨p.toArray⟩).alloc (.cells #[str d, str [108, 111, 99, 97, 108], str [115, 51], str [97, 119, 115, 52, 95, 114, 101, 113, 117, 101, 115, 116]] 9)).heap[w.heap.size + 1]? = some (.cells #[str d, str [108, 111, 99, 97, 108], str [115, 51], str [97, 119, 115, 52, 95, 114, 101, 113, 117, 101, 115, 116]] 9 (0, 0)) := by
        have := heap_alloc_new (Lib.bytesWorld w 5 ⟨p.toArray⟩) (.cells #[str d, str [108, 111, 99, 97, 108], str [115, 51], str [97, 119, 115, 52, 95, 114, 101, 113, 117, 101, 115, 116]] 9)
        rwa [Lib.bytesWorld_size] at this
      rw [Lib.cell_of_heap hb]
      match i, hi with
      | 0, _ | 1, _ | 2, _ | 3, _ => rfl)
    (fun q hq => by simp only [List.mem_cons, List.not_mem_nil, or_false] at hq; rcases hq with rfl | rfl | rfl | rfl <;> (first | omega | decide)) (by simp) (by simp)
  have hF0 : Fr (fun _ => False) w ((Lib.bytesWorld w 5 ⟨p.toArray⟩).alloc (.cells #[str d, str [108, 111, 99, 97, 108], str [115, 51], str [97, 119, 115, 52, 95, 114, 101, 113, 117, 101, 115, 116]] 9)) := ((Fr.refl (fun _ => False) w).bytesWorld _ _).alloc _
  have hch2 := hch _ rfl
  rw [nb_len, show [d, [108, 111, 99, 97, 108], [115, 51], [97, 119, 115, 52, 95, 114, 101, 113, 117, 101, 115, 116]].length = 4 from rfl] at hch2
  have HF0 := Lib.hid hF0
  clear hch hcg hsz hF0
  go_enter Tryz.func65, Tryz.ntmps65
  go_wp2_with (go_at_call 64; rw [Lib.bytesWorld_size]; refine hch2.mono ?_; rintro e w2 ⟨v, rfl, hO, hF⟩)
  have hF2 := HF0.out.trans hF
  have hO2 := own_lower hO HF0.out.size
  rw [← HK.out] at hO2
  clear hO hF
  go_ret
  exact ⟨_, rfl, hO2, hF2⟩
end Go.Proofs.YtghcadbmjglidaaGreatDoor
end
section
set_option linter.unusedVariables false
namespace Go.Proofs.YtghcadbmjglidaaGreatDoor
open Go.RowKit
def twoZ (a b : UInt8) : Int := if (48 ≤ a.toNat ∧ a.toNat ≤ 57) ∧ (48 ≤ b.toNat ∧ b.toNat ≤ 57) then 10 * ((a.toNat : Int) - 48) + ((b.toNat : Int) - 48) else 100
theorem twoZ_le (a b : UInt8) : 0 ≤ twoZ a b ∧ twoZ a b ≤ 100 := by unfold twoZ; split <;> omega
def readZ (l : List UInt8) : Int × Int :=
  if l.length ≠ 16 ∨ l.getD 8 0 ≠ 84 ∨ l.getD 15 0 ≠ 90 then (0, 6)
  else if 99 < twoZ (l.getD 0 0) (l.getD 1 0) ∨ 99 < twoZ (l.getD 2 0) (l.getD 3 0) ∨ 23 < twoZ (l.getD 9 0) (l.getD 10 0) ∨ 59 < twoZ (l.getD 11 0) (l.getD 12 0) ∨ 59 < twoZ (l.getD 13 0) (l.getD 14 0) then (0, 6)
  else if (Clk.day (100 * twoZ (l.getD 0 0) (l.getD 1 0) + twoZ (l.getD 2 0) (l.getD 3 0)) (twoZ (l.getD 4 0) (l.getD 5 0)) (twoZ (l.getD 6 0) (l.getD 7 0))).2 ≠ 0 ∨ (Clk.day (100 * twoZ (l.getD 0 0) (l.getD 1 0) + twoZ (l.getD 2 0) (l.getD 3 0)) (twoZ (l.getD 4 0) (l.getD 5 0)) (twoZ (l.getD 6 0) (l.getD 7 0))).1 < 0 then (0, 6)
  else ((Clk.day (100 * twoZ (l.getD 0 0) (l.getD 1 0) + twoZ (l.getD 2 0) (l.getD 3 0)) (twoZ (l.getD 4 0) (l.getD 5 0)) (twoZ (l.getD 6 0) (l.getD 7 0))).1 * 86400 + (3600 * twoZ (l.getD 9 0) (l.getD 10 0) + 60 * twoZ (l.getD 11 0) (l.getD 12 0) + twoZ (l.getD 13 0) (l.getD 14 0)), 0)
theorem code_gen {P : Program} {c : Code} {Q : Exit → Act → World → Prop} {a : Act} {w : World} (Phi : World → Prop) (h0 : Phi w) (h : ∀ W, Phi W → c.wp P Q a W) : c.wp P Q a w := h w h0
theorem two_ret {a b : Int} (h : a = b) : Ending.returned (.int .i64 a) = .returned (.int .i64 b) := by rw [h]
set_option maxHeartbeats 4000000 in
theorem clk_two (s : ByteArray) (i : Nat) (hi : i + 1 < s.size) (hs : s.size ≤ 1000) (w : World) :
    Calls Tryz.prog 66 #[.string s, .int .i64 i] w fun e w' => e = .returned (.int .i64 (twoZ (s.data.toList.getD i 0) (s.data.toList.getD (i + 1) 0))) ∧ ∃ n, w' = w.drewN n := by
  obtain ⟨a, ha⟩ : ∃ a, s[i]'(by omega) = a := ⟨_, rfl⟩
  obtain ⟨b, hb⟩ : ∃ b, s[i + 1]'hi = b := ⟨_, rfl⟩
  have ha' : Hid (s.data.toList.getD i 0 = a) := by
    show _ = _
    rw [← ha, List.getD_eq_getElem?_getD, Array.getElem?_toList, Array.getElem?_eq_getElem (by show i < s.size; omega)]; rfl
  have hb' : Hid (s.data.toList.getD (i + 1) 0 = b) := by
    show _ = _
    rw [← hb, List.getD_eq_getElem?_getD, Array.getElem?_toList, Array.getElem?_eq_getElem (by show i + 1 < s.size; omega)]; rfl
  rw [ha'.out, hb'.out]
  clear ha' hb'
  have i0 : (0 : Int) ≤ (i : Int) := by omega
  have i1 : (i : Int) < (s.size : Int) := by omega
  have i2 : (i : Int) + 1 < (s.size : Int) := by omega
  have i3 : ((i : Int) + 1).toNat = i + 1 := by omega
  have i4 : (0 : Int) ≤ (i : Int) + 1 := by omega
  have a0 : a.toNat < 256 := a.toNat_lt
  have b0 : b.toNat < 256 := b.toNat_lt
  have z1 : IntKind.i64.wrap ((i : Int) + 1) = (i : Int) + 1 := IntWalk.i64_in _ (by omega)
  have z2 : IntKind.i64.wrap (a.toNat : Int) = a.toNat := IntWalk.i64_in _ (by omega)
  have z3 : IntKind.i64.wrap ((a.toNat : Int) - 48) = (a.toNat : Int) - 48 := IntWalk.i64_in _ (by omega)
  have z4 : IntKind.i64.wrap (b.toNat : Int) = b.toNat := IntWalk.i64_in _ (by omega)
  have z5 : IntKind.i64.wrap ((b.toNat : Int) - 48) = (b.toNat : Int) - 48 := IntWalk.i64_in _ (by omega)
  go_enter Tryz.func66, Tryz.ntmps66
  go_wp2_with fail
  go_quiet (fail)
  clear z1 z2 z3 z4 z5 i0 i1 i2 i3 i4 ha hb
  go_wp2
  all_goals
    go_ret
    exact ⟨two_ret (by unfold twoZ; split <;> omega), nq, rfl⟩
set_option maxHeartbeats 8000000 in
set_option maxRecDepth 100000 in
theorem clk_read16 (a0 a1 a2 a3 a4 a5 a6 a7 a8 a9 a10 a11 a12 a13 a14 a15 : UInt8) (h8 : a8 = 84) (h15 : a15 = 90) (w : World) :
    Calls Tryz.prog 35 #[.string ⟨#[a0, a1, a2, a3, a4, a5, a6, a7, a8, a9, a10, a11, a12, a13, a14, a15]⟩] w fun e w' => e = .returned (.tuple #[.int .u64 (readZ [a0, a1, a2, a3, a4, a5, a6, a7, a8, a9, a10, a11, a12, a13, a14, a15]).1, .int .i64 (readZ [a0, a1, a2, a3, a4, a5, a6, a7, a8, a9, a10, a11, a12, a13, a14, a15]).2]) ∧ Below w.heap.size w w' := by
  subst h8 h15
  obtain ⟨s, hs⟩ : ∃ s : ByteArray, s = ⟨#[a0, a1, a2, a3, a4, a5, a6, a7, 84, a9, a10, a11, a12, a13, a14, 90]⟩ := ⟨_, rfl⟩
  have hz : s.size = 16 := by rw [hs]; rfl
  have s8 : s[8]'(by omega) = 84 := by subst hs; rfl
  have s15 : s[15]'(by omega) = 90 := by subst hs; rfl
  have t0 := fun w => clk_two s 0 (by omega) (by omega) w
  have t1 := fun w => clk_two s 2 (by omega) (by omega) w
  have t2 := fun w => clk_two s 4 (by omega) (by omega) w
  have t3 := fun w => clk_two s 6 (by omega) (by omega) w
  have t4 := fun w => clk_two s 9 (by omega) (by omega) w
  have t5 := fun w => clk_two s 11 (by omega) (by omega) w
  have t6 := fun w => clk_two s 13 (by omega) (by omega) w
  have hd : s.data.toList = [a0, a1, a2, a3, a4, a5, a6, a7, 84, a9, a10, a11, a12, a13, a14, 90] := by rw [hs]
  simp only [hd, List.getD_cons_zero, List.getD_cons_succ, Nat.reduceAdd, Int.cast_ofNat_Int] at t0 t1 t2 t3 t4 t5 t6
  have hR := Lib.hid (show readZ [a0, a1, a2, a3, a4, a5, a6, a7, 84, a9, a10, a11, a12, a13, a14, 90] = if 99 < twoZ a0 a1 ∨ 99 < twoZ a2 a3 ∨ 23 < twoZ a9 a10 ∨ 59 < twoZ a11 a12 ∨ 59 < twoZ a13 a14 then (0, 6)
    else if (Clk.day (100 * twoZ a0 a1 + twoZ a2 a3) (twoZ a4 a5) (twoZ a6 a7)).2 ≠ 0 ∨ (Clk.day (100 * twoZ a0 a1 + twoZ a2 a3) (twoZ a4 a5) (twoZ a6 a7)).1 < 0 then (0, 6)
    else ((Clk.day (100 * twoZ a0 a1 + twoZ a2 a3) (twoZ a4 a5) (twoZ a6 a7)).1 * 86400 + (3600 * twoZ a9 a10 + 60 * twoZ a11 a12 + twoZ a13 a14), 0) from if_neg (by simp))
  have b0 := twoZ_le a0 a1
  have b1 := twoZ_le a2 a3
  have b2 := twoZ_le a4 a5
  have b3 := twoZ_le a6 a7
  have b4 := twoZ_le a9 a10
  have b5 := twoZ_le a11 a12
  have b6 := twoZ_le a13 a14
  generalize twoZ a0 a1 = n0 at *
  generalize twoZ a2 a3 = n1 at *
  generalize twoZ a4 a5 = n2 at *
  generalize twoZ a6 a7 = n3 at *
  generalize twoZ a9 a10 = n4 at *
  generalize twoZ a11 a12 = n5 at *
  generalize twoZ a13 a14 = n6 at *
  generalize readZ _ = R at *
  rw [← hs]
  clear hs hd
  have i0 : ∀ W, (Instr.index 107 (.agg #[.int .i64 0, .int .i64 2, .int .i64 4, .int .i64 6, .int .i64 9, .int .i64 11, .int .i64 13]) (.int .i64 0)).run Tryz.prog W = .ok (.int .i64 0) W := fun _ => by kernel_rfl
  have i1 : ∀ W, (Instr.index 107 (.agg #[.int .i64 0, .int .i64 2, .int .i64 4, .int .i64 6, .int .i64 9, .int .i64 11, .int .i64 13]) (.int .i64 1)).run Tryz.prog W = .ok (.int .i64 2) W := fun _ => by kernel_rfl
  have i2 : ∀ W, (Instr.index 107 (.agg #[.int .i64 0, .int .i64 2, .int .i64 4, .int .i64 6, .int .i64 9, .int .i64 11, .int .i64 13]) (.int .i64 2)).run Tryz.prog W = .ok (.int .i64 4) W := fun _ => by kernel_rfl
  have i3 : ∀ W, (Instr.index 107 (.agg #[.int .i64 0, .int .i64 2, .int .i64 4, .int .i64 6, .int .i64 9, .int .i64 11, .int .i64 13]) (.int .i64 3)).run Tryz.prog W = .ok (.int .i64 6) W := fun _ => by kernel_rfl
  have i4 : ∀ W, (Instr.index 107 (.agg #[.int .i64 0, .int .i64 2, .int .i64 4, .int .i64 6, .int .i64 9, .int .i64 11, .int .i64 13]) (.int .i64 4)).run Tryz.prog W = .ok (.int .i64 9) W := fun _ => by kernel_rfl
  have i5 : ∀ W, (Instr.index 107 (.agg #[.int .i64 0, .int .i64 2, .int .i64 4, .int .i64 6, .int .i64 9, .int .i64 11, .int .i64 13]) (.int .i64 5)).run Tryz.prog W = .ok (.int .i64 11) W := fun _ => by kernel_rfl
  have i6 : ∀ W, (Instr.index 107 (.agg #[.int .i64 0, .int .i64 2, .int .i64 4, .int .i64 6, .int .i64 9, .int .i64 11, .int .i64 13]) (.int .i64 6)).run Tryz.prog W = .ok (.int .i64 13) W := fun _ => by kernel_rfl
  go_enter Tryz.func35, Tryz.ntmps35
  go_wp2
  refine wp_loop_rounds 8 ?_
  iterate 7 (rw [rounds_succ]; go_wp2_with (go_at_call 66; (first | (with_reducible refine (t0 _).mono ?_) | (with_reducible refine (t1 _).mono ?_) | (with_reducible refine (t2 _).mono ?_) | (with_reducible refine (t3 _).mono ?_) | (with_reducible refine (t4 _).mono ?_) | (with_reducible refine (t5 _).mono ?_) | (with_reducible refine (t6 _).mono ?_)); rintro e w' ⟨rfl, n, rfl⟩))
  clear t0 t1 t2 t3 t4 t5 t6 i0 i1 i2 i3 i4 i5 i6
  rw [rounds_succ]
  refine code_gen (fun W => (W.cell? ⟨w.heap.size, 0, none⟩ = some (.int .i64 n0) ∧ W.cell? ⟨w.heap.size, 1, none⟩ = some (.int .i64 n1) ∧ W.cell? ⟨w.heap.size, 2, none⟩ = some (.int .i64 n2) ∧ W.cell? ⟨w.heap.size, 3, none⟩ = some (.int .i64 n3) ∧ W.cell? ⟨w.heap.size, 4, none⟩ = some (.int .i64 n4) ∧ W.cell? ⟨w.heap.size, 5, none⟩ = some (.int .i64 n5) ∧ W.cell? ⟨w.heap.size, 6, none⟩ = some (.int .i64 n6)) ∧ Below w.heap.size w W) ⟨?cel, ?bel⟩ ?_
  case bel =>
    repeat (any_goals (with_reducible first | exact Below.refl _ _ | refine Below.alloc ?_ ?_ _ | refine Below.setCell ?_ ?_ _ | refine pw_drew ?_ _))
    all_goals exact Nat.le_refl _
  case cel =>
    refine ⟨?_, ?_, ?_, ?_, ?_, ?_, ?_⟩ <;> go_simp
  rintro W ⟨⟨c0, c1, c2, c3, c4, c5, c6⟩, hBW⟩
  have hBel := Lib.hid hBW
  have hlt : w.heap.size < W.heap.size := World.block_lt_of_cell? W _ c0
  clear hBW
  generalize hgg : w.heap.size = g at *
  have HGG := Lib.hid hgg
  clear hgg
  by_cases q0 : 99 < n0 ∨ 99 < n1 ∨ 23 < n4 ∨ 59 < n5 ∨ 59 < n6
  · have hR0 := Lib.hid (hR.out.trans (if_pos q0))
    clear hR
    have fin : ∀ W', Below g w W' → (Ending.returned (.tuple #[.int .u64 0, .int .i64 6]) = Ending.returned (.tuple #[.int .u64 R.1, .int .i64 R.2])) ∧ Below w.heap.size w W' := fun W' h => ⟨by rw [hR0.out], HGG.out ▸ h⟩
    by_cases p0 : 99 < max n0 n1
    · go_wp2
      go_ret2
      exact fin _ hBel.out
    · have p1 : decide (99 < max n0 n1) = false := decide_eq_false p0
      by_cases p2 : 23 < n4
      · go_wp2
        go_ret2
        exact fin _ hBel.out
      · by_cases p3 : 59 < n5
        · go_wp2
          go_ret2
          exact fin _ hBel.out
        · have p4 : 59 < n6 := by
            have : ¬ 99 < n0 ∧ ¬ 99 < n1 := by omega
            omega
          go_wp2
          go_ret2
          exact fin _ hBel.out
  · have hR0 := Lib.hid (hR.out.trans (if_neg q0))
    clear hR
    have p0 : ¬ 99 < max n0 n1 := by omega
    have p2 : ¬ 23 < n4 := by omega
    have p3 : ¬ 59 < n5 := by omega
    have p4 : ¬ 59 < n6 := by omega
    clear q0
    have hday := fun w => clk_day (100 * n0 + n1) n2 n3 (by omega) w
    have hdr := Clk.day_range (100 * n0 + n1) n2 n3
    generalize (Clk.day (100 * n0 + n1) n2 n3) = D at *
    obtain ⟨d, e⟩ := D
    simp only at hday hdr hR0
    have hcall : ∀ w1, Below W.heap.size W w1 → (w1.cell? ⟨g, 4, none⟩ = some (.int .i64 n4) ∧ w1.cell? ⟨g, 5, none⟩ = some (.int .i64 n5) ∧ w1.cell? ⟨g, 6, none⟩ = some (.int .i64 n6)) ∧ Hid (Below w.heap.size w w1) := fun w1 hb =>
      ⟨⟨(hb.cell (p := ⟨g, 4, none⟩) hlt).trans c4, (hb.cell (p := ⟨g, 5, none⟩) hlt).trans c5, (hb.cell (p := ⟨g, 6, none⟩) hlt).trans c6⟩, by show Below _ _ _; rw [HGG.out]; exact hBel.out.trans (hb.mono (Nat.le_of_lt hlt))⟩
    by_cases q1 : e = 0
    · subst q1
      have q2 : ((0 : Int) != 0) = false := rfl
      by_cases q3 : d < 0
      · have hR1 := Lib.hid (hR0.out.trans (if_pos (Or.inr q3)))
        go_wp2_with (go_at_call 67; refine (hday _).mono ?_; rintro e2 w1 ⟨rfl, hb⟩; obtain ⟨⟨d4, d5, d6⟩, hB1⟩ := hcall w1 hb; clear hcall hb hday)
        go_ret2
        rw [hR1.out]
        exact ⟨rfl, hB1.out⟩
      · have hR1 := Lib.hid (hR0.out.trans (if_neg (by omega)))
        have z1 : IntKind.u64.wrap d = d := IntWalk.u64_in _ (by omega)
        go_wp2_with (go_at_call 67; refine (hday _).mono ?_; rintro e2 w1 ⟨rfl, hb⟩; obtain ⟨⟨d4, d5, d6⟩, hB1⟩ := hcall w1 hb; clear hcall hb hday)
        go_ret2
        rw [hR1.out]
        exact ⟨rfl, hB1.out⟩
    · have q2 : (e != 0) = true := by simpa using q1
      have hR1 := Lib.hid (hR0.out.trans (if_pos (Or.inl q1)))
      have Q1 := Lib.hid q1
      clear q1
      go_wp2_with (go_at_call 67; refine (hday _).mono ?_; rintro e2 w1 ⟨rfl, hb⟩; obtain ⟨⟨d4, d5, d6⟩, hB1⟩ := hcall w1 hb; clear hcall hb hday)
      go_ret2
      rw [hR1.out]
      exact ⟨rfl, hB1.out⟩
theorem readZ_bad {l : List UInt8} (h : l.length ≠ 16 ∨ l.getD 8 0 ≠ 84 ∨ l.getD 15 0 ≠ 90) : readZ l = (0, 6) := if_pos h
set_option maxHeartbeats 4000000 in
theorem clk_read_len (s : ByteArray) (h : s.size ≠ 16) (w : World) :
    Calls Tryz.prog 35 #[.string s] w fun e w' => e = .returned (.tuple #[.int .u64 0, .int .i64 6]) ∧ Below w.heap.size w w' := by
  have h1 : ((s.size : Int) != 16) = true := by simpa using fun e : (s.size : Int) = 16 => h (by omega)
  go_enter Tryz.func35, Tryz.ntmps35
  go_wp2
  go_ret2
  exact ⟨rfl, Below.refl _ _⟩
set_option maxHeartbeats 4000000 in
theorem clk_read_sign (s : ByteArray) (h : s.size = 16) (a b : UInt8) (ha : s[8]'(by omega) = a) (hb : s[15]'(by omega) = b) (hab : a ≠ 84 ∨ b ≠ 90) (w : World) :
    Calls Tryz.prog 35 #[.string s] w fun e w' => e = .returned (.tuple #[.int .u64 0, .int .i64 6]) ∧ Below w.heap.size w w' := by
  by_cases h8 : a = 84
  · have h15 : ((b.toNat : Int) != 90) = true := by
      have : b ≠ 90 := by rcases hab with h | h; exact absurd h8 h; exact h
      simpa [← UInt8.toNat_inj] using fun e : (b.toNat : Int) = 90 => this (by rw [← UInt8.toNat_inj]; show b.toNat = 90; omega)
    subst h8
    clear hab
    go_enter Tryz.func35, Tryz.ntmps35
    go_wp2
    go_ret2
    exact ⟨rfl, Below.refl _ _⟩
  · have h15 : ((a.toNat : Int) != 84) = true := by
      simpa [← UInt8.toNat_inj] using fun e : (a.toNat : Int) = 84 => h8 (by rw [← UInt8.toNat_inj]; show a.toNat = 84; omega)
    clear hab h8
    go_enter Tryz.func35, Tryz.ntmps35
    go_wp2
    go_ret2
    exact ⟨rfl, Below.refl _ _⟩
theorem clk_read (l : List UInt8) (w : World) :
    Calls Tryz.prog 35 #[.string ⟨l.toArray⟩] w fun e w' => e = .returned (.tuple #[.int .u64 (readZ l).1, .int .i64 (readZ l).2]) ∧ Below w.heap.size w w' := by
  by_cases h : l.length = 16
  · match l, h with
    | [a0, a1, a2, a3, a4, a5, a6, a7, a8, a9, a10, a11, a12, a13, a14, a15], _ =>
      by_cases hab : a8 = 84 ∧ a15 = 90
      · exact clk_read16 a0 a1 a2 a3 a4 a5 a6 a7 a8 a9 a10 a11 a12 a13 a14 a15 hab.1 hab.2 w
      · rw [readZ_bad (l := [a0, a1, a2, a3, a4, a5, a6, a7, a8, a9, a10, a11, a12, a13, a14, a15]) (by right; by_cases h8 : a8 = 84; right; exact fun e => hab ⟨h8, e⟩; left; exact h8)]
        exact clk_read_sign ⟨#[a0, a1, a2, a3, a4, a5, a6, a7, a8, a9, a10, a11, a12, a13, a14, a15]⟩ rfl a8 a15 rfl rfl (by by_cases h8 : a8 = 84; right; exact fun e => hab ⟨h8, e⟩; left; exact h8) w
  · rw [readZ_bad (.inl h)]
    exact clk_read_len ⟨l.toArray⟩ h w
end Go.Proofs.YtghcadbmjglidaaGreatDoor
end
section
set_option linter.unusedVariables false
namespace Go.Proofs.YtghcadbmjglidaaGreatDoor
open Go.RowKit
def hexZ (l : List Nat) : List UInt8 := (l.map fun n : Nat => (n : Int)).flatMap hexTwo
theorem hex_own (v : Value) (l : List Nat) (base : Nat) (w : World) (hO : w.ownsRow base 5 1 v 32 (n8 l)) (hl : l.length = 32) (hx : ∀ x ∈ l, x < 256) :
    Calls Tryz.prog 62 #[v] w fun e w' => e = .returned (str (hexZ l)) ∧ Below w.heap.size w w' := by
  obtain ⟨g, cap, rfl, hc, hr⟩ := own32 hO
  have hm : (l.map fun n : Nat => (n : Int)).length = 32 := by rw [List.length_map, hl]
  have := dig_hex (l.map fun n : Nat => (n : Int)) (by rw [hm]; decide) (fun x h => by obtain ⟨y, hy, rfl⟩ := List.mem_map.1 h; have := hx y hy; omega) (some ⟨g, 0, none⟩) cap w (fun _ => ⟨_, rfl, fun j hj => by
    rw [hm] at hj
    refine hr j _ ?_
    rw [List.getD_eq_getElem?_getD, List.getElem?_map, List.getElem?_map, List.getElem?_eq_getElem (by omega)]
    rfl⟩)
  rw [hm] at this
  exact this
theorem shaOf_len32 (m : List Nat) : (shaOf m).length = 32 := by unfold shaOf sumBytes; rfl
theorem chainN_len (K : List Nat) (p : List UInt8) : (chainN K [p]).length = 32 := rfl
theorem chainN_lt (K : List Nat) (p : List UInt8) : ∀ x ∈ chainN K [p], x < 256 := macN_lt _ _
theorem keyN_len32 (s d : List UInt8) : (keyN s d).length = 32 := rfl
theorem keyN_lt (s d : List UInt8) : ∀ x ∈ keyN s d, x < 256 := macN_lt _ _
theorem hexZ_len (l : List Nat) : (hexZ l).length = 2 * l.length := by
  unfold hexZ
  induction l with
  | nil => rfl
  | cons x t ih => rw [List.map_cons, List.flatMap_cons, List.length_append, ih, List.length_cons, show (hexTwo (x : Int)).length = 2 from rfl]; omega
theorem sha_conv (s : ByteArray) (W : World) (hs : s.size ≤ 1000000000) :
    Calls Tryz.prog 63 #[.slice (some ⟨W.heap.size, 0, none⟩) s.size (grownCap W s.size 0 5)] (Lib.bytesWorld W 5 s) fun e w' => ∃ v, e = .returned v ∧ w'.ownsRow (Lib.bytesWorld W 5 s).heap.size 5 1 v 32 (n8 (shaOf (nb s.data.toList))) ∧ Fr (fun _ => False) (Lib.bytesWorld W 5 s) w' := by
  have hl : (nb s.data.toList).length = s.size := by rw [nb_len, ← Lib.size_eq]
  have hh := conv_has W s.data.toList
  rw [show (⟨s.data.toList.toArray⟩ : ByteArray) = s from Lib.mk_data s] at hh
  have := sha256 (nb s.data.toList) (nb_lt _) (by rw [hl]; omega) (some ⟨W.heap.size, 0, none⟩) (grownCap W s.size 0 5) (by rw [hl]; exact grownCap_ge _ _ _ _) _ hh
  rw [hl] at this
  exact this
theorem chain_one (K : List Nat) (v : Value) (T : List UInt8) (base : Nat) (W : World) (hO : W.ownsRow base 5 1 v 32 (n8 K)) (hK : K.length = 32) (hx : ∀ x ∈ K, x < 256) (hT : T.length ≤ 1000000000) :
    Calls Tryz.prog 64 #[v, .slice (some ⟨W.heap.size, 0, none⟩) 1 1] (W.alloc (.cells #[str T] 9)) fun e w' => ∃ v', e = .returned v' ∧ w'.ownsRow (W.alloc (.cells #[str T] 9)).heap.size 5 1 v' 32 (n8 (chainN K [T])) ∧ Fr (fun _ => False) (W.alloc (.cells #[str T] 9)) w' := by
  obtain ⟨g, cap, rfl, hc, hr⟩ := own32 hO
  have h1 := chain_any K [T] (some ⟨g, 0, none⟩) cap 1 W.heap.size (W.alloc (.cells #[str T] 9)) (fun _ => ⟨_, rfl, fun j u hj => ((Fr.refl (fun _ => False) W).alloc _).cell (hr j u hj) id⟩) (by rw [hK]; exact hc) (by rw [hK]; decide) (by rw [hK]; decide) hx
    (fun i hi => by
      rw [Lib.cell_of_heap (heap_alloc_new W _)]
      match i, hi with
      | 0, _ => rfl) (fun p hp => by rw [List.mem_singleton.1 hp]; exact hT) (by simp) (by simp)
  rw [hK] at h1
  exact h1
end Go.Proofs.YtghcadbmjglidaaGreatDoor
end
