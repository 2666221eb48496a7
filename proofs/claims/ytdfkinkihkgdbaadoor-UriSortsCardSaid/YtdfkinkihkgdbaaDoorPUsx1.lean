/- Contracts of Go functions, walked; written by a program out of the translation and of contracts of this work. -/
import Derived.Test.YtdfkinkihkgdbaaDoorPUsx0
namespace Go.Proofs.YtdfkinkihkgdbaaDoor.PUs
open Go.RowKit Go.Proofs.YtdfkinkihkgdbaaDoorW.PrintWords Go.Proofs.YtdfkinkihkgdbaaDoorW.PrintLast Go.Proofs.YtdfkinkihkgdbaaDoorW.PrintMore
attribute [local go_sem] max2_int min2_int max_two min_two max_three min_three max_four min_four   -- for this text's walks alone
set_option linter.unusedVariables false
set_option linter.unusedSimpArgs false

/-! ### stelelaw04_light: function 5 -/
def stelelaw04_light.l0 : Nat → List ByteArray → Int → Int → Option (Bool)
  | 0, _, _, _ => none
  | k + 1, x0, x3, x4 => if x4 < (x0.length : Int) then (if 0 ≤ x4 then (stelelaw04_light.l0 k x0 (wrap64 (x3 + ((rdOf ByteArray.empty x0 x4).size : Int))) (wrap64 (x4 + 1))) else (none)) else (some (decide (x3 ≤ 20000)))
def stelelaw04_light.f (k : Nat) (l0 : List ByteArray) : Option (Bool) := stelelaw04_light.l0 k l0 0 0
theorem stelelaw04_light.mono_l : ∀ k, (∀ y0 y1 y2, LeO (stelelaw04_light.l0 k y0 y1 y2) (stelelaw04_light.l0 (k + 1) y0 y1 y2))
  | 0 => fun _ _ _ r h => by simp [stelelaw04_light.l0] at h
  | k + 1 => by
    have ih0 := stelelaw04_light.mono_l k
    · intro y0 y1 y2
      unfold stelelaw04_light.l0
      repeat' first
      | (with_reducible exact ih0 _ _ _)
      | (with_reducible exact LeO.refl _)
      | (with_reducible exact LeO.none _)
      | (with_reducible refine LeO.ite ?_ ?_)
      | (with_reducible refine LeO.bind ?_ (fun _ => ?_))
      | exact ih0 _ _ _
      | exact LeO.none _
      | refine LeO.ite ?_ ?_
      | refine LeO.bind ?_ (fun _ => ?_)
theorem stelelaw04_light.mono : ∀ a0 k, LeO (stelelaw04_light.f k a0) (stelelaw04_light.f (k + 1) a0) := by
  intro a0 k
  have ih0 := stelelaw04_light.mono_l k
  unfold stelelaw04_light.f
  repeat' first
      | (with_reducible exact ih0 _ _ _)
      | (with_reducible exact LeO.refl _)
      | (with_reducible exact LeO.none _)
      | (with_reducible refine LeO.ite ?_ ?_)
      | (with_reducible refine LeO.bind ?_ (fun _ => ?_))
      | exact ih0 _ _ _
      | exact LeO.none _
      | refine LeO.ite ?_ ?_
      | refine LeO.bind ?_ (fun _ => ?_)
set_option maxHeartbeats 8000000 in
set_option maxRecDepth 100000 in
theorem stelelaw04_light.calls (k : Nat) (A0 : Option Addr) (c0 : Nat) (l0 : List ByteArray) (r : Bool) (w : World) (hr0 : Kd.C Kd.string w A0 l0.length l0) (hc0 : l0.length ≤ c0) (h : stelelaw04_light.f k l0 = some r) :
    Calls Tryd.prog 5 #[.slice A0 l0.length c0] w fun e w' => e = .returned (.bool r) ∧ Drawn0 w w' := by
  have HR0 := Aside0.mk hr0
  have HC0 := Aside0.mk hc0
  clear hr0 hc0
  have H : (stelelaw04_light.l0 k l0 0 0) = some r := h
  clear h
  have H' := Aside0.mk H
  clear H
  go_enter Tryd.func5, Tryd.ntmps5
  go_wp2
  go_loopg [3, 4] k (fun kq v3 v4 w' => ∃ (x3_1 : Int) (x4_1 : Int), v3 = .int .i64 x3_1 ∧ v4 = .int .i64 x4_1 ∧ Aside0 (stelelaw04_light.l0 kq l0 x3_1 x4_1 = some r) ∧ Aside0 (kq ≤ k) ∧ Drawn0 w w')
  case atStart => exact ⟨(0), (0), (by first | rfl | (simp; done) | (simp [*]; done)), (by first | rfl | (simp; done) | (simp [*]; done)), H', ⟨Nat.le_refl _⟩, by repeat (first | exact Drawn0.refl _ | apply Drawn0.step)⟩
  case round =>
    clear H'
    obtain ⟨x3_1, x4_1, rfl, rfl, HA, HK1, ⟨m1, rfl⟩⟩ := hrel
    cases gk with
    | zero => exact absurd HA.out (by simp [stelelaw04_light.l0])
    | succ k1 =>
      have H := HA.out
      clear HA
      simp only [stelelaw04_light.l0] at H
      by_cases c2 : x4_1 < (l0.length : Int)
      · rw [if_pos c2] at H
        have c2b0 : decide (x4_1 < (l0.length : Int)) = true := decide_eq_true c2
        clear c2
        by_cases c3 : 0 ≤ x4_1
        · rw [if_pos c3] at H
          have c3b0 : decide (0 ≤ x4_1) = true := decide_eq_true c3
          clear c3
          have H' := Aside0.mk H
          clear H
          have p101 : 0 ≤ (x4_1 : Int) := of_decide_eq_true (by first | (with_reducible assumption) | assumption)
          have q101 : x4_1 < (l0.length : Int) := of_decide_eq_true (by first | (with_reducible assumption) | assumption)
          obtain ⟨ad101, e101, hx101_0⟩ := Kd.at_string HR0.out x4_1 p101 q101
          cases e101
          replace p101 := eq_true p101
          replace q101 := eq_true q101
          go_wp2
          go_roundg k1
          case measure => have := HK1.out; omega
          case rel => exact ⟨(wrap64 (x3_1 + ((rdOf ByteArray.empty l0 x4_1).size : Int))), (wrap64 (x4_1 + 1)), (by first | rfl | (simp; done) | (simp [*]; done)), (by first | rfl | (simp; done) | (simp [*]; done)), H', ⟨by have := HK1.out; omega⟩, by repeat (first | exact Drawn0.refl _ | apply Drawn0.step)⟩
        · rw [if_neg c3] at H
          exact absurd H (by simp)
      · rw [if_neg c2] at H
        have c2b0 : decide (x4_1 < (l0.length : Int)) = false := decide_eq_false c2
        clear c2
        obtain rfl := Option.some.inj H
        go_wp2
        go_ret
        exact ⟨by first | rfl | (simp; done) | (simp [*]; done), by repeat (first | exact Drawn0.refl _ | apply Drawn0.step)⟩

-- NOT PRINTED: function 73 (bytealg_IndexByteString)

-- NOT PRINTED: function 61 (stringslite_IndexByte)

-- NOT PRINTED: function 64 (bytealg_IndexString)

-- NOT PRINTED: function 65 (bytealg_Cutover)

-- NOT PRINTED: function 74 (bytealg_hashStr_string)

-- NOT PRINTED: function 66 (bytealg_IndexRabinKarp_string)

-- NOT PRINTED: function 48 (stringslite_Index)

-- NOT PRINTED: function 35 (stringslite_Cut)

-- NOT PRINTED: function 16 (strings_Cut)

-- NOT PRINTED: function 62 (abi_NoEscape)

-- NOT PRINTED: function 44 (strings_Builder_copyCheck)

-- NOT PRINTED: function 31 (strings_Builder_WriteByte)

-- NOT PRINTED: function 32 (strings_Builder_WriteString)

-- NOT PRINTED: function 33 (strings_Builder_String)

-- NOT PRINTED: function 43 (strings_IndexByte)

-- NOT PRINTED: function 36 (uri_digit)

-- NOT PRINTED: function 17 (uri_Decode)

-- NOT PRINTED: function 18 (api_Errno)

-- NOT PRINTED: function 60 (stringslite_HasPrefix)

-- NOT PRINTED: function 42 (stringslite_CutPrefix)

-- NOT PRINTED: function 29 (strings_CutPrefix)

-- NOT PRINTED: function 13 (uri_Path)

-- NOT PRINTED: function 30 (uri_plain)

-- NOT PRINTED: function 14 (uri_Encode)

/-! ### stelelaw04_alive: function 6 (its contract proved by hand) -/

def stelelaw04_alive.f : Option Bool := some true
theorem stelelaw04_alive.calls (r : Bool) (w : World) (h : stelelaw04_alive.f = some r) :
    Calls Tryd.prog 6 #[] w fun e w' => e = .returned (.bool r) ∧ Below w.heap.size w w' := by
  obtain rfl : true = r := Option.some.inj h
  exact law_alive w


-- NOT PRINTED: function 22 (uri_Pair_22)

/-! ### uri_Find: function 9 (its contract proved by hand) -/
set_option maxHeartbeats 4000000 in
set_option maxRecDepth 100000 in
theorem find_1 (a b nm : ByteArray) (B : Nat) (w : World) (hB : w.cell? ⟨B, 0, none⟩ = some (.string nm)) :
    Calls Tryd.prog 23 #[.agg #[.string a, .string b], .pointer (some ⟨B, 0, none⟩)] w fun e w' => e = .returned (.bool (a.toList == nm.toList)) ∧ Below w.heap.size w w' := by
  have hu37 := Tryd.underlying37
  have hlt : B < w.heap.size := World.block_lt_of_cell? w _ hB
  go_enter Tryd.func23, Tryd.ntmps23
  go_wp2
  go_ret
  exact ⟨rfl, below_alloc (Below.refl _ _) _⟩
/-- Where the first pair of that name stands; -1: nowhere. -/
def idxN (nm : ByteArray) : List S37 → Nat → Int
  | [], _ => -1
  | x :: t, i => if (x.f0.toList == nm.toList) = true then (i : Int) else idxN nm t (i + 1)
theorem idxN_cons (nm : ByteArray) (x : S37) (t : List S37) (i : Nat) : idxN nm (x :: t) i = if (x.f0.toList == nm.toList) = true then (i : Int) else idxN nm t (i + 1) := rfl
set_option maxHeartbeats 8000000 in
set_option maxRecDepth 100000 in
theorem index_func (A0 : Option Addr) (c0 : Nat) (l0 : List S37) (nm : ByteArray) (B : Nat) (w : World) (hr0 : Kd.C k37 w A0 l0.length l0) (hlim : l0.length < 1000000) (hB : w.cell? ⟨B, 0, none⟩ = some (.string nm)) :
    Calls Tryd.prog 22 #[.slice A0 l0.length c0, .func (.func 23) #[] #[.pointer (some ⟨B, 0, none⟩)]] w fun e w' => e = .returned (.int .i64 (idxN nm l0 0)) ∧ Below w.heap.size w w' := by
  have hu24 := Tryd.underlying24
  have hu37 := Tryd.underlying37
  have HR := Aside0.mk hr0
  clear hr0
  go_enter Tryd.func22, Tryd.ntmps22
  go_wp2
  go_loopg [8] l0.length (fun kx s8 wr => ∃ i : Nat, s8 = .int .i64 i ∧ i + kx = l0.length ∧ Aside0 (idxN nm l0 0 = idxN nm (l0.drop i) i) ∧ Aside0 (Below w.heap.size w wr))
  case atStart => exact ⟨0, rfl, by omega, .mk rfl, .mk (Below.refl _ _)⟩
  case round =>
    obtain ⟨i, rfl, hik, HI, HBl⟩ := hrel
    cases gk with
    | zero =>
      obtain rfl : i = l0.length := by omega
      have hd : decide ((l0.length : Int) < (l0.length : Int)) = false := decide_eq_false (by omega)
      go_wp2
      go_ret
      rw [HI.out, List.drop_length]
      exact ⟨rfl, HBl.out⟩
    | succ kx =>
      have hi : i < l0.length := by omega
      have hd : decide ((i : Int) < (l0.length : Int)) = true := decide_eq_true (by omega)
      obtain ⟨ad, hA, hc0, hc1⟩ := at_T37 (Kd.C_below HR.out HBl.out) (i : Int) (by omega) (by omega)
      subst hA
      simp only [Int.toNat_natCast] at hc0 hc1
      have hx : rd_T37 l0 (i : Int) = l0[i] := by unfold rd_T37; rw [Int.toNat_natCast, List.getD_eq_getElem?_getD, List.getElem?_eq_getElem hi]; rfl
      rw [hx] at hc0 hc1
      have hw : wrap64 ((i : Int) + 1) = ((i + 1 : Nat) : Int) := by unfold wrap64; omega
      have hBr : wr.cell? ⟨B, 0, none⟩ = some (.string nm) := (HBl.out.cell (World.block_lt_of_cell? w _ hB)).trans hB
      have hI2 := HI.out
      rw [List.drop_eq_getElem_cons hi, idxN_cons] at hI2
      cases hq : (l0[i].f0.toList == nm.toList) with
      | true =>
        rw [hq, if_pos rfl] at hI2
        have HI2 := Aside0.mk hI2
        clear hI2
        go_wp2_with (go_at_call 23; refine (find_1 _ _ nm B _ hBr).mono ?_; rintro e w2 ⟨rfl, hb2⟩; rw [hq]; have HB2 := Aside0.mk (HBl.out.trans (hb2.mono HBl.out.size)); clear hb2)
        go_ret
        rw [HI2.out]
        exact ⟨rfl, HB2.out⟩
      | false =>
        rw [hq, if_neg (by simp)] at hI2
        have HI2 := Aside0.mk hI2
        clear hI2
        go_wp2_with (go_at_call 23; refine (find_1 _ _ nm B _ hBr).mono ?_; rintro e w2 ⟨rfl, hb2⟩; rw [hq]; have HB2 := Aside0.mk (HBl.out.trans (hb2.mono HBl.out.size)); clear hb2)
        go_roundg kx
        case measure => omega
        case rel => exact ⟨i + 1, by push_cast; rfl, by omega, HI2, HB2⟩
theorem idxN_find (nm : ByteArray) : ∀ (l : List S37) (i : Nat), (idxN nm l i = -1 ∧ l.find? (fun x => x.f0.toList == nm.toList) = none) ∨ ∃ j, j < l.length ∧ idxN nm l i = ((i + j : Nat) : Int) ∧ l.find? (fun x => x.f0.toList == nm.toList) = some (rd_T37 l (j : Int))
  | [], _ => .inl ⟨rfl, rfl⟩
  | x :: t, i => by
    rw [idxN_cons]
    cases hq : (x.f0.toList == nm.toList) with
    | true => exact .inr ⟨0, by simp, by rw [if_pos rfl]; simp, by simp only [List.find?, hq]; rfl⟩
    | false =>
      rw [if_neg (by simp)]
      rcases idxN_find nm t (i + 1) with ⟨h1, h2⟩ | ⟨j, h1, h2, h3⟩
      · exact .inl ⟨h1, by simp only [List.find?, hq]; exact h2⟩
      · exact .inr ⟨j + 1, by simpa using h1, by rw [h2]; congr 1; omega, by simp only [List.find?, hq]; rw [h3]; rfl⟩
def findP (l : List S37) (nm : ByteArray) : ByteArray × Bool := match l.find? (fun x => x.f0.toList == nm.toList) with
  | some x => (x.f1, true)
  | none => ((⟨#[]⟩ : ByteArray), false)
def uri_Find.f (l0 : List S37) (a1 : ByteArray) : Option (ByteArray × Bool) := if l0.length < 1000000 then some (findP l0 a1) else none
set_option maxHeartbeats 8000000 in
set_option maxRecDepth 100000 in
theorem uri_Find.calls (A0 : Option Addr) (c0 : Nat) (l0 : List (S37)) (a1 : ByteArray) (r1 : ByteArray) (r2 : Bool) (w : World) (hr0 : Kd.C k37 w A0 l0.length l0) (hc0 : l0.length ≤ c0) (h : uri_Find.f l0 a1 = some (r1, r2)) :
    Calls Tryd.prog 9 #[.slice A0 l0.length c0, .string a1] w fun e w' => e = .returned (.tuple #[.string r1, .bool r2]) ∧ Below w.heap.size w w' := by
  unfold uri_Find.f at h
  split at h
  case isFalse => cases h
  case isTrue hlim =>
  have HF := Aside0.mk (Option.some.inj h)
  have hu24 := Tryd.underlying24
  have hu37 := Tryd.underlying37
  have HR := Aside0.mk hr0
  clear hr0 h
  rcases idxN_find a1 l0 0 with ⟨h1, h2⟩ | ⟨j, h1, h2, h3⟩
  · have hfp := HF.out
    unfold findP at hfp
    rw [h2] at hfp
    obtain ⟨rfl, rfl⟩ := Prod.mk.inj hfp
    clear hfp h2 HF
    have hbx := blk_new w (.cells #[.string a1] 9)
    have hB := (blk_cell hbx 0).trans rfl
    go_enter Tryd.func9, Tryd.ntmps9
    go_wp2_with (go_at_call 22; refine (index_func A0 c0 l0 a1 w.heap.size _ (Kd.C_alloc HR.out _) hlim hB).mono ?_; rintro e w2 ⟨rfl, hb2⟩; rw [h1]; have HB2 := Aside0.mk hb2; clear hb2)
    go_ret2
    exact ⟨rfl, (below_alloc (Below.refl _ _) _).trans (HB2.out.mono (by simp))⟩
  · have hfp := HF.out
    unfold findP at hfp
    rw [h3] at hfp
    obtain ⟨e1, rfl⟩ := Prod.mk.inj hfp
    have E1 := Aside0.mk e1
    clear hfp h3 HF e1
    have hbx := blk_new w (.cells #[.string a1] 9)
    have hB := (blk_cell hbx 0).trans rfl
    obtain ⟨ad, hA, hc0', hc1⟩ := at_T37 HR.out (j : Int) (by omega) (by omega)
    subst hA
    simp only [Int.toNat_natCast] at hc0' hc1
    rw [E1.out] at hc1
    rw [Nat.zero_add] at h2
    have hj1 : decide ((j : Int) < 0) = false := decide_eq_false (by omega)
    have hj2 : (j : Int) < (l0.length : Int) := by omega
    have HC1 := Aside0.mk hc1
    clear hc1 hc0'
    go_enter Tryd.func9, Tryd.ntmps9
    go_wp2_with (go_at_call 22; refine (index_func (some ad) c0 l0 a1 w.heap.size _ (Kd.C_alloc HR.out _) hlim hB).mono ?_; rintro e w2 ⟨rfl, hb2⟩; rw [h2]; have HB2 := Aside0.mk ((below_alloc (Below.refl w.heap.size w) (.cells #[.string a1] 9)).trans (hb2.mono (by simp))); have hc2 := (HB2.out.cell (World.block_lt_of_cell? w _ HC1.out)).trans HC1.out; clear hb2)
    go_ret2
    exact ⟨rfl, HB2.out⟩


-- NOT PRINTED: function 34 (strings_splitSeq)

-- NOT PRINTED: function 15 (strings_SplitSeq)

/-! ### uri_Query: function 7 (its contract proved by hand) -/
open Go.Shelf
/-- One part of a query, behind those that have come. -/
def badQ (acc : List S37) (x : List UInt8) : Bool :=
  (orZ [(decR (Uri.cut1 61 x).1).2, (decR (Uri.cut1 61 x).2.1).2] != 0) || ((decR (Uri.cut1 61 x).1).1 == []) || (findP acc ⟨(decR (Uri.cut1 61 x).1).1.toArray⟩).2 || (acc.length == 24)
def stepQ (acc : List S37) (x : List UInt8) : Option (List S37) :=
  if badQ acc x = true then none else some (acc ++ [⟨⟨(decR (Uri.cut1 61 x).1).1.toArray⟩, ⟨(decR (Uri.cut1 61 x).2.1).1.toArray⟩⟩])
def runQ (l : List (List UInt8)) : Option (List S37) := l.foldl (fun o x => o.bind (fun acc => stepQ acc x)) (some [])
theorem runQ_snoc (l : List (List UInt8)) (x : List UInt8) : runQ (l ++ [x]) = (runQ l).bind (fun acc => stepQ acc x) := by unfold runQ; rw [List.foldl_append]; rfl
theorem runQ_stuck : ∀ (l : List (List UInt8)), l.foldl (fun (o : Option (List S37)) x => o.bind (fun acc => stepQ acc x)) none = none
  | [] => rfl
  | _ :: t => runQ_stuck t
theorem runQ_prefix {pre l : List (List UInt8)} (h : pre <+: l) (hn : runQ pre = none) : runQ l = none := by
  obtain ⟨t, rfl⟩ := h
  unfold runQ at hn ⊢
  rw [List.foldl_append, hn]
  exact runQ_stuck t
theorem stepQ_len {acc ps : List S37} {x : List UInt8} (h : acc.length ≤ 24) (h2 : stepQ acc x = some ps) : ps.length ≤ 24 := by
  unfold stepQ at h2
  split at h2
  · cases h2
  · rename_i hb
    cases h2
    have h24 : (acc.length == 24) = false := by
      cases hq : (acc.length == 24) with
      | false => rfl
      | true => exact absurd (by unfold badQ; rw [hq]; simp) hb
    have : acc.length ≠ 24 := by intro e; rw [e] at h24; cases h24
    rw [List.length_append, List.length_singleton]
    omega
theorem runQ_len0 : ∀ (l : List (List UInt8)) (acc ps : List S37), acc.length ≤ 24 → l.foldl (fun (o : Option (List S37)) x => o.bind (fun acc => stepQ acc x)) (some acc) = some ps → ps.length ≤ 24
  | [], acc, ps, h, e => by cases e; exact h
  | x :: t, acc, ps, h, e => by
    have e : t.foldl (fun (o : Option (List S37)) x => o.bind (fun acc => stepQ acc x)) (stepQ acc x) = some ps := e
    cases hq : stepQ acc x with
    | none => rw [hq, runQ_stuck] at e; cases e
    | some a2 => rw [hq] at e; exact runQ_len0 t a2 ps (stepQ_len h hq) e
theorem runQ_len {l : List (List UInt8)} {ps : List S37} (h : runQ l = some ps) : ps.length ≤ 24 := runQ_len0 l [] ps (Nat.zero_le _) h
def Rp (p : S37) (c : List Value) : Prop := c = [.string p.f0, .string p.f1]
/-- What holds in Query between two rounds. -/
structure QSt (w : World) (g3 g4 b0 : Nat) (v : Value) (ps : List S37) (W : World) : Prop where
  b2 : Boxed W w.heap.size 24 (.slice none 0 0)
  b3 : Boxed W g3 25 (.int .i64 0)
  b4 : Boxed W g4 24 v
  row : OwnRow Rp 37 2 W (b0 + 3) v ps
  sz : b0 + 3 ≤ W.heap.size
  bl : Below w.heap.size w W
/-- What holds where Query has left its loop. -/
structure XSt (w : World) (g3 b0 : Nat) (W : World) : Prop where
  b2 : Boxed W w.heap.size 24 (.slice none 0 0)
  b3 : Boxed W g3 25 (.int .i64 13)
  sz : b0 + 3 ≤ W.heap.size
  bl : Below w.heap.size w W
section
variable {w W W' : World} {g3 g4 b0 : Nat} {v : Value} {ps : List S37}
theorem bxB {B : Nat} {t : TypeId} {u : Value} (h : Boxed W B t u) (hb : Below W.heap.size W W') : Boxed W' B t u := (hb.block _ h.lt).trans h
theorem keepsB {B : Nat} (hb : Below W.heap.size W W') : KeepsFrom B W W' := ⟨hb.size, fun k o _ hk _ => (hb.block k (Array.getElem?_eq_some_iff.1 hk).1).trans hk⟩
theorem kpsB {b0 : Nat} (h : b0 + 3 ≤ W.heap.size) (hb : Below W.heap.size W W') : KpS b0 W W' := ⟨hb.block _ (by omega), hb.block _ (by omega), hb.block _ (by omega)⟩
theorem QSt.R (h : QSt w g3 g4 b0 v ps W) : Kd.R k37 37 W (b0 + 3) (fun _ => True) v ps := ⟨fun _ _ => trivial, OwnRow.imp_ h.row (fun p c e => by rw [show c = _ from e]; exact k37_mkM _ _ _ _)⟩
theorem row_below {b : Nat} {v : Value} {ps : List S37} (h : OwnRow Rp 37 2 W b v ps) (hb : Below W.heap.size W W') : OwnRow Rp 37 2 W' b v ps := by
  obtain ⟨inner, ho, hr⟩ := h
  refine ⟨inner, ⟨ho.1, ?_⟩, hr⟩
  rcases ho.2 with h0 | ⟨g, cap, cur, h1, h2, h3, h4⟩
  · exact .inl h0
  · exact .inr ⟨g, cap, cur, h1, h2, (hb.block _ (Array.getElem?_eq_some_iff.1 h3).1).trans h3, h4⟩
theorem QSt.below (h : QSt w g3 g4 b0 v ps W) (hb : Below W.heap.size W W') : QSt w g3 g4 b0 v ps W' :=
  ⟨bxB h.b2 hb, bxB h.b3 hb, bxB h.b4 hb, row_below h.row hb, Nat.le_trans h.sz hb.size, h.bl.trans (hb.mono h.bl.size)⟩
theorem row_kept {b : Nat} (h : OwnRow Rp 37 2 W b v ps) {row : Option Nat} (hg : W.grownBy W' row) (hr : ∀ r, row = some r → r < b ∨ ∃ o : Obj, W.heap[r]? = some o ∧ o.isCells = false) : OwnRow Rp 37 2 W' b v ps := by
  obtain ⟨inner, ho, hrp⟩ := h
  refine ⟨inner, ho.kept hg ?_, hrp⟩
  rcases ho.2 with ⟨rfl, _⟩ | ⟨g, cap, cur, rfl, hb, hc, _⟩
  · exact .inl rfl
  · refine .inr fun e => ?_
    rcases hr g e.symm with h1 | ⟨o, h2, h3⟩
    · omega
    · rw [hc] at h2; cases h2; cases h3
theorem QSt.kept (h3 : g3 < b0) (h4 : g4 < b0) (hw : w.heap.size < b0) (h : QSt w g3 g4 b0 v ps W) {row : Option Nat} (hg : W.grownBy W' row) (hr : ∀ r, row = some r → r = b0 ∨ (b0 + 3 ≤ r ∧ ∃ o : Obj, W.heap[r]? = some o ∧ o.isCells = false)) : QSt w g3 g4 b0 v ps W' := by
  have ne : ∀ k, k < b0 → some k ≠ row := fun k hk e => by rcases hr k e.symm with h1 | h1 <;> omega
  exact ⟨h.b2.kept hg (ne _ hw), h.b3.kept hg (ne _ h3), h.b4.kept hg (ne _ h4), row_kept h.row hg (fun r e => by rcases hr r e with h1 | h1; exact .inl (by omega); exact .inr h1.2), Nat.le_trans h.sz hg.size, h.bl.grown hg (by have := h.sz; omega) (fun k e => by rcases hr k e with h1 | h1 <;> omega)⟩
theorem XSt.kept (h3 : g3 < b0) (hw : w.heap.size < b0) (h : XSt w g3 b0 W) {row : Option Nat} (hg : W.grownBy W' row) (hr : ∀ r, row = some r → r = b0 ∨ (b0 + 3 ≤ r ∧ ∃ o : Obj, W.heap[r]? = some o ∧ o.isCells = false)) : XSt w g3 b0 W' := by
  have ne : ∀ k, k < b0 → some k ≠ row := fun k hk e => by rcases hr k e.symm with h1 | h1 <;> omega
  exact ⟨h.b2.kept hg (ne _ hw), h.b3.kept hg (ne _ h3), Nat.le_trans h.sz hg.size, h.bl.grown hg (by have := h.sz; omega) (fun k e => by rcases hr k e with h1 | h1 <;> omega)⟩
theorem keepsT {B : Nat} {A C D : World} (h : KeepsFrom B A C) (k : KeepsFrom B C D) : KeepsFrom B A D := h.trans k
/-- The refusal: two stores. -/
theorem QSt.out (h3 : g3 < b0) (hw : w.heap.size < b0) (hw3 : w.heap.size < g3) (h : QSt w g3 g4 b0 v ps W) :
    XSt w g3 b0 ((W.setCell ⟨w.heap.size, 0, none⟩ (.slice none 0 0)).setCell ⟨g3, 0, none⟩ (.int .i64 13)) ∧ ∀ B, KeepsFrom B W ((W.setCell ⟨w.heap.size, 0, none⟩ (.slice none 0 0)).setCell ⟨g3, 0, none⟩ (.int .i64 13)) :=
  ⟨⟨(h.b2.set _).kept (grownBy_setCell' _ _ _) (by intro e; injection e with e; omega), (h.b3.kept (grownBy_setCell' _ _ _) (by intro e; injection e with e; omega)).set _, Nat.le_trans h.sz ((KeepsOthers.setCell _ _ _).trans (KeepsOthers.setCell _ _ _)).size,
    (h.bl.setCell (p := ⟨w.heap.size, 0, none⟩) (Nat.le_refl _) _).setCell (p := ⟨g3, 0, none⟩) (Nat.le_of_lt hw3) _⟩, fun B => ((KeepsOthers.setCell _ _ _).trans (KeepsOthers.setCell _ _ _)).from B⟩
/-- One pair more: the append and the store. -/
theorem QSt.more (h3 : g3 < b0) (h4 : g4 < b0) (hw : w.heap.size < b0) (hw3 : w.heap.size < g3) (hw4 : w.heap.size < g4) (h34 : g3 ≠ g4) (h : QSt w g3 g4 b0 v ps W) {inner : List Value} (hin : W.ownsRow (b0 + 3) 37 2 v ps.length inner) (hrp : Reps Rp 2 ps inner) {x : S37} {tmp : Obj} {w1 : World} {v' : Value}
    (hown : w1.ownsRow (b0 + 3) 37 2 v' (ps.length + 1) (inner ++ [.string x.f0, .string x.f1])) (hgrow : (W.alloc tmp).grownBy w1 v.ownBlock) :
    Boxed w1 g4 24 v ∧ QSt w g3 g4 b0 v' (ps ++ [x]) (w1.setCell ⟨g4, 0, none⟩ v') ∧ (∀ B, KeepsFrom B W (w1.setCell ⟨g4, 0, none⟩ v')) ∧ KpS b0 W (w1.setCell ⟨g4, 0, none⟩ v') := by
  have own : ∀ k, v.ownBlock = some k → b0 + 3 ≤ k := fun k e => (hin.lt k e).1
  have ne : ∀ k, k < b0 + 3 → some k ≠ v.ownBlock := fun k hk e => by have := own k e.symm; omega
  obtain ⟨q1, q2, q3, q4, q5⟩ := h.b4.appended (n₀ := w.heap.size) (by decide) (hin.mono (by omega)) h.bl.size (Nat.le_of_lt hw4) (hown.mono (base' := w.heap.size) (by omega)) hgrow
  have own' : ∀ k, v'.ownBlock = some k → b0 + 3 ≤ k := fun k e => (hown.lt k e).1
  have nb : ∀ k, k < b0 + 3 → (w1.setCell ⟨g4, 0, none⟩ v').heap[k]? = if k = g4 then (w1.setCell ⟨g4, 0, none⟩ v').heap[k]? else W.heap[k]? := fun k hk => by
    by_cases e : k = g4
    · rw [if_pos e]
    · rw [if_neg e, Below.heap_setCell _ _ _ k e, hgrow.block k (by have := h.sz; simp; omega) (ne k hk), Below.heap_alloc W tmp k (by have := h.sz; omega)]
  have nb2 : ∀ k, k < b0 + 3 → k ≠ g4 → (w1.setCell ⟨g4, 0, none⟩ v').heap[k]? = W.heap[k]? := fun k hk e => (nb k hk).trans (if_neg e)
  refine ⟨q1, ⟨(nb2 _ (by omega) (by omega)).trans h.b2, (nb2 _ (by omega) h34).trans h.b3, q2, ⟨_, ?_, Reps.snoc hrp rfl rfl⟩, Nat.le_trans h.sz q4.size, h.bl.trans q5⟩, fun B => q4.from B, nb2 _ (by omega) (by omega), nb2 _ (by omega) (by omega), nb2 _ (by omega) (by omega)⟩
  have hk := hown.kept (grownBy_setCell' w1 g4 v') (.inr (fun e => by have := own' _ e; omega))
  rw [List.length_append, List.length_singleton]
  exact hk
end
attribute [local go_sem] Oper.semAt_some
def QPost (w : World) (r1 : List S37) (r2 : Int) (e : Ending) (w' : World) : Prop := ∃ v0_ : Value, e = .returned (.tuple #[v0_, .int .i64 r2]) ∧ Kd.R k37 37 w' w.heap.size (fun _ => True) v0_ r1 ∧ Below w.heap.size w w'
def resQ (s : List UInt8) : List S37 × Int := if s = [] then ([], 0) else match runQ (parts 38 s) with
  | some ps => (ps, 0)
  | none => ([], 13)
set_option maxHeartbeats 4000000 in
set_option maxRecDepth 100000 in
theorem query_nil (w : World) : Calls Tryd.prog 7 #[str []] w (QPost w [] 0) := by
  have he : (str [] : Value) = .string ⟨#[]⟩ := rfl
  go_enter Tryd.func7, Tryd.ntmps7
  go_wp2
  refine bodyPost_ret (v := .tuple #[.slice none 0 0, .int .i64 0]) (by simp [results, Tryd.results7, go_sem]) rfl ?_
  exact ⟨_, rfl, Kd.R_nil _ _ _ _ _, below_alloc (below_alloc (Below.refl _ _) _) _⟩
theorem split_seq (s : List UInt8) (w : World) : Calls Tryd.prog 15 #[str s, .string ⟨#[38]⟩] w fun e w' => e = .returned (.func (.func 45) #[] #[.pointer (some ⟨w.heap.size + 1, 0, none⟩), .pointer (some ⟨w.heap.size, 0, none⟩), .pointer (some ⟨w.heap.size + 2, 0, none⟩)]) ∧ w' = ((w.alloc (.cells #[str s] 9)).alloc (.cells #[.string ⟨#[38]⟩] 9)).alloc (.cells #[.int .i64 0] 3) := by
  go_enter Tryd.func15, Tryd.ntmps15
  go_wp2
  go_ret
  exact ⟨rfl, rfl⟩
theorem kpsT {b : Nat} {A B C : World} (h : KpS b A B) (k : KpS b B C) : KpS b A C := ⟨k.1.trans h.1, k.2.1.trans h.2.1, k.2.2.trans h.2.2⟩
theorem box_at {w : World} {n : Nat} (t : TypeId) (v : Value) (h : w.heap.size = n) : Boxed (w.alloc (.cells #[v] t)) n t v := by rw [← h]; exact Boxed.new w t v
set_option maxHeartbeats 4000000 in
set_option maxRecDepth 100000 in
theorem query_some (s : List UInt8) (hs : s ≠ []) (hl : s.length ≤ 100000000) (w : World) : Calls Tryd.prog 7 #[str s] w (QPost w (resQ s).1 (resQ s).2) := by
  refine (callsIn_wide (n := 4)).1 ?_
  have he : (s == []) = false := by cases s with
    | nil => exact absurd rfl hs
    | cons x t => rfl
  refine callsIn_of_wp_marks Tryd.func7 rfl trivial ?_ rfl
  simp only [Tryd.ntmps7, List.size_toArray, List.length_cons, List.length_nil, Nat.reduceAdd, Nat.reduceSub, Array.replicate_succ, Array.replicate_zero, List.push_toArray, List.append_toArray, List.nil_append, List.cons_append]
  gi_wp2_with (refine ⟨trivial, ?_⟩; gi_at_call 15; refine (callsIn_wide.2 (split_seq s _)).mono ?_; rintro e w' ⟨rfl, rfl⟩)
  obtain ⟨W0, hW0⟩ : ∃ W0, (((((w.alloc (Obj.cells #[Value.slice none 0 0] 24)).alloc (Obj.cells #[Value.int IntKind.i64 0] 25)).alloc (Obj.cells #[Value.slice none 0 0] 24)).alloc (.cells #[str s] 9)).alloc (.cells #[.string ⟨#[38]⟩] 9)).alloc (.cells #[.int .i64 0] 3) = W0 := ⟨_, rfl⟩
  have hz : W0.heap.size = w.heap.size + 3 + 3 := by rw [← hW0]; simp
  have B2 : Boxed W0 w.heap.size 24 (.slice none 0 0) := by rw [← hW0]; exact (((((box_at 24 (.slice none 0 0) rfl).alloc _).alloc _).alloc _).alloc _).alloc _
  have B3 : Boxed W0 (w.heap.size + 1) 25 (.int .i64 0) := by rw [← hW0]; exact ((((box_at 25 (.int .i64 0) (by simp)).alloc _).alloc _).alloc _).alloc _
  have B4 : Boxed W0 (w.heap.size + 2) 24 (.slice none 0 0) := by rw [← hW0]; exact (((box_at 24 (.slice none 0 0) (by simp)).alloc _).alloc _).alloc _
  have C0 : Boxed W0 (w.heap.size + 3) 9 (str s) := by rw [← hW0]; exact ((box_at 9 (str s) (by simp)).alloc _).alloc _
  have C1 : Boxed W0 (w.heap.size + 3 + 1) 9 (.string ⟨#[38]⟩) := by rw [← hW0]; exact (box_at 9 _ (by simp)).alloc _
  have C2 : Boxed W0 (w.heap.size + 3 + 2) 3 (.int .i64 0) := by rw [← hW0]; exact box_at 3 _ (by simp)
  have hb0 : Below w.heap.size w W0 := by rw [← hW0]; exact below_alloc (below_alloc (below_alloc (below_alloc (below_alloc (below_alloc (Below.refl _ _) _) _) _) _) _) _
  rw [hW0]
  have h0 : QSt w (w.heap.size + 1) (w.heap.size + 2) (w.heap.size + 3) (.slice none 0 0) [] W0 := ⟨B2, B3, B4, ⟨[], World.ownsRow_nil _ _ _ _, rfl, fun j p h => by simp at h⟩, by omega, hb0⟩
  clear hW0 B2 B3 B4
  refine wpIn_rangeFunc_box (Bs := w.heap.size + 3) rfl (by decide) (gf := 45) (lb := #[.pointer (some ⟨w.heap.size + 3 + 1, 0, none⟩), .pointer (some ⟨w.heap.size + 3, 0, none⟩), .pointer (some ⟨w.heap.size + 3 + 2, 0, none⟩)]) rfl trivial (enters_of Tryd.func45 (by kernel_rfl) rfl)
    (by omega) (split_in 3 (by decide) (w.heap.size + 3) 100000000 s hl (by decide) W0 C0 C1 C2) ?kt ?kb (fun _ => rfl)
    (fun pre W => ∃ ps v, runQ pre = some ps ∧ QSt w (w.heap.size + 1) (w.heap.size + 2) (w.heap.size + 3) v ps W) (fun pre W => runQ pre = none ∧ XSt w (w.heap.size + 1) (w.heap.size + 3) W) ?bI ?bX ⟨[], _, rfl, h0⟩
    (fun x => { tmps := #[str s, undef, .pointer (some ⟨w.heap.size, 0, none⟩), .pointer (some ⟨w.heap.size + 1, 0, none⟩), .pointer (some ⟨w.heap.size + 1 + 1, 0, none⟩), str x, undef, undef, undef, undef, undef, undef, undef, undef, undef, str s, .bool false, str s, .func (.func 45) #[] #[.pointer (some ⟨w.heap.size + 3 + 1, 0, none⟩), .pointer (some ⟨w.heap.size + 3, 0, none⟩), .pointer (some ⟨w.heap.size + 3 + 2, 0, none⟩)], str x, undef, undef, undef, undef, undef, undef, undef, undef, undef, undef, undef, undef, undef, undef, undef, undef, undef, undef, undef, undef, undef, undef, undef, undef, undef, undef, undef, undef, undef, undef, undef, undef, undef, undef, undef, undef, undef, undef, undef, undef, undef, undef, undef, undef, undef, undef], defers := [] }) ?assign ?body ?done ?stop
  case kt => exact fun h k => ⟨k.1.trans h.1, k.2.1.trans h.2.1, k.2.2.trans h.2.2⟩
  case kb => exact fun W l o' hl => ⟨World.putObj_heap_other (by omega), World.putObj_heap_other (by omega), World.putObj_heap_other (by omega)⟩
  case bI =>
    rintro pre W W' row ⟨ps, v, h1, h2⟩ hg hr
    exact ⟨ps, v, h1, h2.kept (by omega) (by omega) (by omega) hg (fun r e => by rcases hr r e with h | ⟨h, k⟩; exact .inl h; exact .inr ⟨by omega, k⟩)⟩
  case bX =>
    rintro pre W W' row ⟨h1, h2⟩ hg hr
    exact ⟨h1, h2.kept (by omega) (by omega) hg (fun r e => by rcases hr r e with h | ⟨h, k⟩; exact .inl h; exact .inr ⟨by omega, k⟩)⟩
  case assign =>
    intro l x W K hK
    gi_wp2
    exact hK
  case body =>
    rintro l pre x W ⟨ps, v, hrun, hQ⟩ hx
    have hx : x.length ≤ 100000000 := hx
    have hcl := cut1_le 61 x
    have h24 := runQ_len hrun
    have hst := (runQ_snoc pre x).trans (by rw [hrun]; rfl : (runQ pre).bind (fun acc => stepQ acc x) = stepQ ps x)
    unfold stepQ badQ at hst
    obtain ⟨a, ha⟩ : ∃ a, (Uri.cut1 61 x).1 = a := ⟨_, rfl⟩
    obtain ⟨b, hb⟩ : ∃ b, (Uri.cut1 61 x).2.1 = b := ⟨_, rfl⟩
    obtain ⟨q, hq⟩ : ∃ q, (Uri.cut1 61 x).2.2 = q := ⟨_, rfl⟩
    have hC : Hid (Uri.cut1 61 x = (a, b, q)) := by show _ = _; rw [← ha, ← hb, ← hq]
    rw [ha, hb] at hst
    rw [ha, hb] at hcl
    clear ha hb hq
    obtain ⟨n, hn⟩ : ∃ n, (decR a).1 = n := ⟨_, rfl⟩
    obtain ⟨e1, he1⟩ : ∃ e, (decR a).2 = e := ⟨_, rfl⟩
    obtain ⟨vv, hv⟩ : ∃ n, (decR b).1 = n := ⟨_, rfl⟩
    obtain ⟨e2, he2⟩ : ∃ e, (decR b).2 = e := ⟨_, rfl⟩
    have hA : Hid (decR a = (n, e1)) := by show _ = _; rw [← hn, ← he1]
    have hB : Hid (decR b = (vv, e2)) := by show _ = _; rw [← hv, ← he2]
    rw [hn, he1, hv, he2] at hst
    clear hn he1 hv he2
    obtain ⟨fv, hfv⟩ : ∃ f, (findP ps ⟨n.toArray⟩).1 = f := ⟨_, rfl⟩
    obtain ⟨tw, htw⟩ : ∃ f, (findP ps ⟨n.toArray⟩).2 = f := ⟨_, rfl⟩
    have hF : Hid (uri_Find.f ps ⟨n.toArray⟩ = some (fv, tw)) := by show _ = _; unfold uri_Find.f; rw [if_pos (by omega), ← hfv, ← htw]
    rw [htw] at hst
    clear hfv htw
    obtain ⟨E, hE⟩ : ∃ E, orZ [e1, e2] = E := ⟨_, rfl⟩
    rw [hE] at hst
    have HE := Lib.hid hE
    clear hE
    have HS := Lib.hid hst
    clear hst
    obtain ⟨A, c, rfl⟩ := Kd.R_slice hQ.R
    obtain ⟨p1, hp1⟩ : ∃ p, (E != 0) = p := ⟨_, rfl⟩
    obtain ⟨p2, hp2⟩ : ∃ p, (n == []) = p := ⟨_, rfl⟩
    obtain ⟨p4, hp4⟩ : ∃ p, (ps.length == 24) = p := ⟨_, rfl⟩
    have hp4' : ((ps.length : Int) == 24) = p4 := by rw [← hp4]; cases hq : (ps.length == 24) <;> simp_all <;> omega
    have HS2 : Hid (runQ (pre ++ [x]) = if (p1 || p2 || tw || p4) = true then none else some (ps ++ [⟨⟨n.toArray⟩, ⟨vv.toArray⟩⟩])) := by show _ = _; rw [HS.out, hp1, hp2, hp4]
    clear HS
    have HQ := Aside0.mk hQ
    clear hQ
    cases p1 with
    | true =>
        gi_wp2_with (first
          | (refine ⟨trivial, ?_⟩; gi_at_call 16; refine (CallsIn.inRound l (callsIn_wide.2 (strings_cut x 61 W (by omega)))).mono ?_; rintro e w1 ⟨rfl, nd, rfl⟩; rw [hC.out])
          | (refine ⟨trivial, ?_⟩; gi_at_call 17; (with_reducible refine (CallsIn.inRound l (callsIn_wide.2 (uri_Decode a _ (by omega)))).mono ?_); rintro e w2 ⟨rfl, hb2⟩; rw [hA.out])
          | (refine ⟨trivial, ?_⟩; gi_at_call 17; (with_reducible refine (CallsIn.inRound l (callsIn_wide.2 (uri_Decode b _ (by omega)))).mono ?_); rintro e w3 ⟨rfl, hb3⟩; rw [hB.out]; have hb3' : Below W.heap.size W w3 := (show Below W.heap.size W w2 from ⟨hb2.os, hb2.tape, hb2.output, hb2.size, hb2.block⟩).trans (hb3.mono hb2.size); have HQ3 := Aside0.mk (HQ.out.below hb3'); have HB3 := Aside0.mk hb3'; have c4 := HQ3.out.b4.cell; clear hb2 hb3 hb3')
          | (refine ⟨trivial, ?_⟩; gi_at_call 9; (with_reducible refine (CallsIn.inRound l (callsIn_wide.2 (uri_Find.calls A c ps ⟨n.toArray⟩ fv _ w3 (Kd.R_reads' HQ3.out.R).2.2 (Kd.R_reads' HQ3.out.R).2.1 hF.out))).mono ?_); rintro e w4 ⟨rfl, hb4⟩; clear c4; have HQ4 := Aside0.mk (HQ3.out.below hb4); have HB4 := Aside0.mk (HB3.out.trans (hb4.mono HB3.out.size)); clear hb4)
          | (refine ⟨trivial, ?_⟩; gi_at_call 18; (with_reducible refine (CallsIn.inRound l (callsIn_wide.2 (or2 e1 e2 w4))).mono ?_); rintro e w5 ⟨rfl, hw5⟩; rw [HE.out]; have HB5 := Aside0.mk (HB4.out.trans (hw5 ▸ (below_alloc (Below.refl _ w4) _).mono HB4.out.size)); have HQ5 := Aside0.mk (HQ4.out.below (hw5 ▸ below_alloc (Below.refl _ w4) _)); clear hw5; have c4 := HQ5.out.b4.cell; have f2 := HQ5.out.b2.frozen; have f3 := HQ5.out.b3.frozen; have f4 := HQ5.out.b4.frozen; have c2 := HQ5.out.b2.cell; have c3 := HQ5.out.b3.cell))
        have hres := HS2.out
        exact ⟨(keepsB HB5.out).trans ((HQ5.out.out (by omega) (by omega) (by omega)).2 _), hres, (HQ5.out.out (by omega) (by omega) (by omega)).1⟩
    | false =>
      cases p2 with
      | true =>
          gi_wp2_with (first
            | (refine ⟨trivial, ?_⟩; gi_at_call 16; refine (CallsIn.inRound l (callsIn_wide.2 (strings_cut x 61 W (by omega)))).mono ?_; rintro e w1 ⟨rfl, nd, rfl⟩; rw [hC.out])
            | (refine ⟨trivial, ?_⟩; gi_at_call 17; (with_reducible refine (CallsIn.inRound l (callsIn_wide.2 (uri_Decode a _ (by omega)))).mono ?_); rintro e w2 ⟨rfl, hb2⟩; rw [hA.out])
            | (refine ⟨trivial, ?_⟩; gi_at_call 17; (with_reducible refine (CallsIn.inRound l (callsIn_wide.2 (uri_Decode b _ (by omega)))).mono ?_); rintro e w3 ⟨rfl, hb3⟩; rw [hB.out]; have hb3' : Below W.heap.size W w3 := (show Below W.heap.size W w2 from ⟨hb2.os, hb2.tape, hb2.output, hb2.size, hb2.block⟩).trans (hb3.mono hb2.size); have HQ3 := Aside0.mk (HQ.out.below hb3'); have HB3 := Aside0.mk hb3'; have c4 := HQ3.out.b4.cell; clear hb2 hb3 hb3')
            | (refine ⟨trivial, ?_⟩; gi_at_call 9; (with_reducible refine (CallsIn.inRound l (callsIn_wide.2 (uri_Find.calls A c ps ⟨n.toArray⟩ fv _ w3 (Kd.R_reads' HQ3.out.R).2.2 (Kd.R_reads' HQ3.out.R).2.1 hF.out))).mono ?_); rintro e w4 ⟨rfl, hb4⟩; clear c4; have HQ4 := Aside0.mk (HQ3.out.below hb4); have HB4 := Aside0.mk (HB3.out.trans (hb4.mono HB3.out.size)); clear hb4)
            | (refine ⟨trivial, ?_⟩; gi_at_call 18; (with_reducible refine (CallsIn.inRound l (callsIn_wide.2 (or2 e1 e2 w4))).mono ?_); rintro e w5 ⟨rfl, hw5⟩; rw [HE.out]; have HB5 := Aside0.mk (HB4.out.trans (hw5 ▸ (below_alloc (Below.refl _ w4) _).mono HB4.out.size)); have HQ5 := Aside0.mk (HQ4.out.below (hw5 ▸ below_alloc (Below.refl _ w4) _)); clear hw5; have c4 := HQ5.out.b4.cell; have f2 := HQ5.out.b2.frozen; have f3 := HQ5.out.b3.frozen; have f4 := HQ5.out.b4.frozen; have c2 := HQ5.out.b2.cell; have c3 := HQ5.out.b3.cell))
          have hres := HS2.out
          exact ⟨(keepsB HB5.out).trans ((HQ5.out.out (by omega) (by omega) (by omega)).2 _), hres, (HQ5.out.out (by omega) (by omega) (by omega)).1⟩
      | false =>
        cases tw with
        | true =>
            gi_wp2_with (first
              | (refine ⟨trivial, ?_⟩; gi_at_call 16; refine (CallsIn.inRound l (callsIn_wide.2 (strings_cut x 61 W (by omega)))).mono ?_; rintro e w1 ⟨rfl, nd, rfl⟩; rw [hC.out])
              | (refine ⟨trivial, ?_⟩; gi_at_call 17; (with_reducible refine (CallsIn.inRound l (callsIn_wide.2 (uri_Decode a _ (by omega)))).mono ?_); rintro e w2 ⟨rfl, hb2⟩; rw [hA.out])
              | (refine ⟨trivial, ?_⟩; gi_at_call 17; (with_reducible refine (CallsIn.inRound l (callsIn_wide.2 (uri_Decode b _ (by omega)))).mono ?_); rintro e w3 ⟨rfl, hb3⟩; rw [hB.out]; have hb3' : Below W.heap.size W w3 := (show Below W.heap.size W w2 from ⟨hb2.os, hb2.tape, hb2.output, hb2.size, hb2.block⟩).trans (hb3.mono hb2.size); have HQ3 := Aside0.mk (HQ.out.below hb3'); have HB3 := Aside0.mk hb3'; have c4 := HQ3.out.b4.cell; clear hb2 hb3 hb3')
              | (refine ⟨trivial, ?_⟩; gi_at_call 9; (with_reducible refine (CallsIn.inRound l (callsIn_wide.2 (uri_Find.calls A c ps ⟨n.toArray⟩ fv _ w3 (Kd.R_reads' HQ3.out.R).2.2 (Kd.R_reads' HQ3.out.R).2.1 hF.out))).mono ?_); rintro e w4 ⟨rfl, hb4⟩; clear c4; have HQ4 := Aside0.mk (HQ3.out.below hb4); have HB4 := Aside0.mk (HB3.out.trans (hb4.mono HB3.out.size)); clear hb4)
              | (refine ⟨trivial, ?_⟩; gi_at_call 18; (with_reducible refine (CallsIn.inRound l (callsIn_wide.2 (or2 e1 e2 w4))).mono ?_); rintro e w5 ⟨rfl, hw5⟩; rw [HE.out]; have HB5 := Aside0.mk (HB4.out.trans (hw5 ▸ (below_alloc (Below.refl _ w4) _).mono HB4.out.size)); have HQ5 := Aside0.mk (HQ4.out.below (hw5 ▸ below_alloc (Below.refl _ w4) _)); clear hw5; have c4 := HQ5.out.b4.cell; have f2 := HQ5.out.b2.frozen; have f3 := HQ5.out.b3.frozen; have f4 := HQ5.out.b4.frozen; have c2 := HQ5.out.b2.cell; have c3 := HQ5.out.b3.cell))
            have hres := HS2.out
            exact ⟨(keepsB HB5.out).trans ((HQ5.out.out (by omega) (by omega) (by omega)).2 _), hres, (HQ5.out.out (by omega) (by omega) (by omega)).1⟩
        | false =>
          cases p4 with
          | true =>
              gi_wp2_with (first
                | (refine ⟨trivial, ?_⟩; gi_at_call 16; refine (CallsIn.inRound l (callsIn_wide.2 (strings_cut x 61 W (by omega)))).mono ?_; rintro e w1 ⟨rfl, nd, rfl⟩; rw [hC.out])
                | (refine ⟨trivial, ?_⟩; gi_at_call 17; (with_reducible refine (CallsIn.inRound l (callsIn_wide.2 (uri_Decode a _ (by omega)))).mono ?_); rintro e w2 ⟨rfl, hb2⟩; rw [hA.out])
                | (refine ⟨trivial, ?_⟩; gi_at_call 17; (with_reducible refine (CallsIn.inRound l (callsIn_wide.2 (uri_Decode b _ (by omega)))).mono ?_); rintro e w3 ⟨rfl, hb3⟩; rw [hB.out]; have hb3' : Below W.heap.size W w3 := (show Below W.heap.size W w2 from ⟨hb2.os, hb2.tape, hb2.output, hb2.size, hb2.block⟩).trans (hb3.mono hb2.size); have HQ3 := Aside0.mk (HQ.out.below hb3'); have HB3 := Aside0.mk hb3'; have c4 := HQ3.out.b4.cell; clear hb2 hb3 hb3')
                | (refine ⟨trivial, ?_⟩; gi_at_call 9; (with_reducible refine (CallsIn.inRound l (callsIn_wide.2 (uri_Find.calls A c ps ⟨n.toArray⟩ fv _ w3 (Kd.R_reads' HQ3.out.R).2.2 (Kd.R_reads' HQ3.out.R).2.1 hF.out))).mono ?_); rintro e w4 ⟨rfl, hb4⟩; clear c4; have HQ4 := Aside0.mk (HQ3.out.below hb4); have HB4 := Aside0.mk (HB3.out.trans (hb4.mono HB3.out.size)); clear hb4)
                | (refine ⟨trivial, ?_⟩; gi_at_call 18; (with_reducible refine (CallsIn.inRound l (callsIn_wide.2 (or2 e1 e2 w4))).mono ?_); rintro e w5 ⟨rfl, hw5⟩; rw [HE.out]; have HB5 := Aside0.mk (HB4.out.trans (hw5 ▸ (below_alloc (Below.refl _ w4) _).mono HB4.out.size)); have HQ5 := Aside0.mk (HQ4.out.below (hw5 ▸ below_alloc (Below.refl _ w4) _)); clear hw5; have c4 := HQ5.out.b4.cell; have f2 := HQ5.out.b2.frozen; have f3 := HQ5.out.b3.frozen; have f4 := HQ5.out.b4.frozen; have c2 := HQ5.out.b2.cell; have c3 := HQ5.out.b3.cell))
              have hres := HS2.out
              exact ⟨(keepsB HB5.out).trans ((HQ5.out.out (by omega) (by omega) (by omega)).2 _), hres, (HQ5.out.out (by omega) (by omega) (by omega)).1⟩
          | false =>
            obtain ⟨i0, hi, hz0, hz1, hz2⟩ := info_parts info37
            gi_wp2_with (first
              | (refine ⟨trivial, ?_⟩; gi_at_call 16; refine (CallsIn.inRound l (callsIn_wide.2 (strings_cut x 61 W (by omega)))).mono ?_; rintro e w1 ⟨rfl, nd, rfl⟩; rw [hC.out])
              | (refine ⟨trivial, ?_⟩; gi_at_call 17; (with_reducible refine (CallsIn.inRound l (callsIn_wide.2 (uri_Decode a _ (by omega)))).mono ?_); rintro e w2 ⟨rfl, hb2⟩; rw [hA.out])
              | (refine ⟨trivial, ?_⟩; gi_at_call 17; (with_reducible refine (CallsIn.inRound l (callsIn_wide.2 (uri_Decode b _ (by omega)))).mono ?_); rintro e w3 ⟨rfl, hb3⟩; rw [hB.out]; have hb3' : Below W.heap.size W w3 := (show Below W.heap.size W w2 from ⟨hb2.os, hb2.tape, hb2.output, hb2.size, hb2.block⟩).trans (hb3.mono hb2.size); have HQ3 := Aside0.mk (HQ.out.below hb3'); have HB3 := Aside0.mk hb3'; have c4 := HQ3.out.b4.cell; clear hb2 hb3 hb3')
              | (refine ⟨trivial, ?_⟩; gi_at_call 9; (with_reducible refine (CallsIn.inRound l (callsIn_wide.2 (uri_Find.calls A c ps ⟨n.toArray⟩ fv _ w3 (Kd.R_reads' HQ3.out.R).2.2 (Kd.R_reads' HQ3.out.R).2.1 hF.out))).mono ?_); rintro e w4 ⟨rfl, hb4⟩; clear c4; have HQ4 := Aside0.mk (HQ3.out.below hb4); have HB4 := Aside0.mk (HB3.out.trans (hb4.mono HB3.out.size)); clear hb4)
              | (refine ⟨trivial, ?_⟩; gi_at_call 18; (with_reducible refine (CallsIn.inRound l (callsIn_wide.2 (or2 e1 e2 w4))).mono ?_); rintro e w5 ⟨rfl, hw5⟩; rw [HE.out]; have HB5 := Aside0.mk (HB4.out.trans (hw5 ▸ (below_alloc (Below.refl _ w4) _).mono HB4.out.size)); have HQ5 := Aside0.mk (HQ4.out.below (hw5 ▸ below_alloc (Below.refl _ w4) _)); clear hw5; have c4 := HQ5.out.b4.cell; have f2 := HQ5.out.b2.frozen; have f3 := HQ5.out.b3.frozen; have f4 := HQ5.out.b4.frozen; have c2 := HQ5.out.b2.cell; have c3 := HQ5.out.b3.cell)
              | (gi_at_builtin; go_must (obtain ⟨inner, hin1, hin2⟩ := HQ5.out.row; refine wpListIn_append_own _ rfl _ _ 24 rfl (w.heap.size + 3 + 3) 37 i0 (.agg #[(.string ⟨#[]⟩), (.string ⟨#[]⟩)]) 2 32 Tryd.underlying24 hi hz0 hz1 hz2 rfl (by decide) _ _ _ rfl (hin1.alloc _) ⟨w5.heap.size, 0, none⟩ 1 1 [.string ⟨n.toArray⟩, .string ⟨vv.toArray⟩] rfl rfl (news_alloc _ _ _) (by simp [Value.oneCell']) (by simp [maxLen]; omega) (by omega) (by have := HQ5.out.sz; simp; omega) ?_; intro v' w6 hown6 hgrow6 _; have hmore := HQ5.out.more (x := ⟨⟨n.toArray⟩, ⟨vv.toArray⟩⟩) (by omega) (by omega) (by omega) (by omega) (by omega) (by omega) hin1 hin2 hown6 hgrow6; obtain ⟨g', cap', rfl⟩ := ownsRow_succ hown6; have fz := hmore.1.frozen; have cz := hmore.1.cell; have HM := Aside0.mk hmore.2; clear hmore c4 c2 c3 f2 f3 f4; clear hin1 hin2 hown6 hgrow6)))
            have hres := HS2.out
            exact ⟨(keepsB HB5.out).trans (HM.out.2.1 _), (kpsT (kpsB HQ.out.sz HB5.out) HM.out.2.2), _, _, hres, HM.out.1⟩
  case done =>
    rintro D W hD ⟨ps, v, hrun, hQ⟩ hK
    have hres : resQ s = (ps, 0) := by unfold resQ; rw [if_neg hs, hrun]
    have HR := Lib.hid hres
    clear hres
    obtain ⟨A, c, rfl⟩ := Kd.R_slice hQ.R
    have HQ := Aside0.mk hQ
    have c4 := hQ.b4.cell
    have f2 := hQ.b2.frozen
    have f3 := hQ.b3.frozen
    have c2 := hQ.b2.cell
    have c3 := hQ.b3.cell
    have HK := Aside0.mk hK
    clear hK hQ hrun
    gi_wp2
    have hk2 := ((KeepsOthers.setCell W ⟨w.heap.size, 0, none⟩ (.slice A ps.length c)).trans (KeepsOthers.setCell _ ⟨w.heap.size + 1, 0, none⟩ (.int .i64 0))).same D _ HK.out rfl
    refine ⟨by simp, .inl ⟨_, _, rfl, run_takeDeferred hk2, ?_⟩⟩
    obtain ⟨W2, hW2⟩ : ∃ W2, (W.setCell ⟨w.heap.size, 0, none⟩ (.slice A ps.length c)).setCell ⟨w.heap.size + 1, 0, none⟩ (.int .i64 0) = W2 := ⟨_, rfl⟩
    have q2 : Boxed W2 w.heap.size 24 (.slice A ps.length c) := by rw [← hW2]; exact (HQ.out.b2.set _).kept (grownBy_setCell' _ _ _) (by intro e; injection e with e; omega)
    have q3 : Boxed W2 (w.heap.size + 1) 25 (.int .i64 0) := by rw [← hW2]; exact (HQ.out.b3.kept (grownBy_setCell' _ _ _) (by intro e; injection e with e; omega)).set _
    have q4 : OwnRow Rp 37 2 W2 (w.heap.size + 3 + 3) (.slice A ps.length c) ps := by
      rw [← hW2]
      exact row_kept (row_kept HQ.out.row (grownBy_setCell' _ _ _) (fun r e => by injection e with e; exact .inl (by omega))) (grownBy_setCell' _ _ _) (fun r e => by injection e with e; exact .inl (by omega))
    have q5 : Below w.heap.size w W2 := by rw [← hW2]; exact (HQ.out.bl.setCell (p := ⟨w.heap.size, 0, none⟩) (Nat.le_refl _) _).setCell (p := ⟨w.heap.size + 1, 0, none⟩) (by simp) _
    rw [hW2] at hk2 ⊢
    clear hW2 c4 f2 f3 c2 c3
    have r2 := (q2.kept (grownBy_putObj' W2 D (.deferred none)) (by intro e; injection e with e; omega)).cell
    have r3 := (q3.kept (grownBy_putObj' W2 D (.deferred none)) (by intro e; injection e with e; omega)).cell
    have r4 := row_kept q4 (grownBy_putObj' W2 D (.deferred none)) (fun r e => by injection e with e; subst e; exact .inr ⟨_, hk2, rfl⟩)
    have r5 : Below w.heap.size w (W2.putObj D (.deferred none)) := q5.grown (grownBy_putObj' W2 D (.deferred none)) q5.size (fun k e => by injection e with e; omega)
    refine ⟨.tuple #[.slice A ps.length c, .int .i64 0], by simp [results, Tryd.results7, go_sem, r2, r3], ?_⟩
    rw [HR.out]
    exact ⟨_, rfl, Kd.R_lower (show Kd.R k37 37 _ (w.heap.size + 3 + 3) (fun _ => True) _ ps from ⟨fun _ _ => trivial, OwnRow.imp_ r4 (fun p c e => by rw [show c = _ from e]; exact k37_mkM _ _ _ _)⟩) (by omega), r5⟩
  case stop =>
    rintro D pre W hD hpre ⟨hrun, hX⟩ hK
    have hres : resQ s = ([], 13) := by unfold resQ; rw [if_neg hs, runQ_prefix hpre hrun]
    have HR := Lib.hid hres
    clear hres
    have c2 := hX.b2.cell
    have c3 := hX.b3.cell
    gi_wp2
    refine ⟨by simp, .inl ⟨_, _, rfl, run_takeDeferred hK, ?_⟩⟩
    have r2 := (hX.b2.kept (grownBy_putObj' W D (.deferred none)) (by intro e; injection e with e; omega)).cell
    have r3 := (hX.b3.kept (grownBy_putObj' W D (.deferred none)) (by intro e; injection e with e; omega)).cell
    have r5 : Below w.heap.size w (W.putObj D (.deferred none)) := hX.bl.grown (grownBy_putObj' W D (.deferred none)) hX.bl.size (fun k e => by injection e with e; omega)
    refine ⟨.tuple #[.slice none 0 0, .int .i64 13], by simp [results, Tryd.results7, go_sem, r2, r3], ?_⟩
    rw [HR.out]
    exact ⟨_, rfl, Kd.R_nil _ _ _ _ _, r5⟩
theorem query_any (s : List UInt8) (hl : s.length ≤ 100000000) (w : World) : Calls Tryd.prog 7 #[str s] w (QPost w (resQ s).1 (resQ s).2) := by
  by_cases hs : s = []
  · subst hs; exact query_nil w
  · exact query_some s hs hl w

def uri_Query.f (a0 : ByteArray) : Option (List S37 × Int) := if a0.size ≤ 100000000 then some (resQ a0.data.toList) else none
theorem uri_Query.calls (a0 : ByteArray) (r1 : List S37) (r2 : Int) (w : World) (h : uri_Query.f a0 = some (r1, r2)) :
    Calls Tryd.prog 7 #[.string a0] w fun e w' => ∃ v0_ : Value, e = .returned (.tuple #[v0_, .int .i64 r2]) ∧ Kd.R k37 37 w' w.heap.size (fun _ => True) v0_ r1 ∧ Below w.heap.size w w' := by
  unfold uri_Query.f at h
  split at h
  case isFalse => cases h
  case isTrue hl =>
  have h1 := Option.some.inj h
  have h2 := query_any a0.data.toList (by rw [← Lib.size_eq]; exact hl) w
  rw [h1] at h2
  have e : str a0.data.toList = .string a0 := congrArg Value.string (Lib.mk_data a0)
  rw [e] at h2
  exact h2


-- NOT PRINTED: function 49 (uri_Pair_49)

-- NOT PRINTED: function 67 (uri_Pair_67)

-- NOT PRINTED: function 50 (uri_Pair_50)

-- NOT PRINTED: function 57 (bits_Len32)

-- NOT PRINTED: function 58 (bits_Len64)

-- NOT PRINTED: function 39 (bits_Len)

-- NOT PRINTED: function 68 (slices_nextPowerOfTwo)

-- NOT PRINTED: function 69 (slices_xorshift_Next)

-- NOT PRINTED: function 51 (uri_Pair_51)

-- NOT PRINTED: function 75 (uri_Pair_75)

-- NOT PRINTED: function 71 (uri_Pair_71)

-- NOT PRINTED: function 70 (uri_Pair_70)

-- NOT PRINTED: function 52 (uri_Pair_52)

-- NOT PRINTED: function 53 (uri_Pair_53)

-- NOT PRINTED: function 54 (uri_Pair_54)

-- NOT PRINTED: function 55 (uri_Pair_55)

-- NOT PRINTED: function 56 (uri_Pair_56)

-- NOT PRINTED: function 38 (uri_Pair_38)

-- NOT PRINTED: function 24 (uri_Pair_24)

-- NOT PRINTED: function 72 (bytealg_MakeNoZero)

-- NOT PRINTED: function 59 (strings_Builder_grow)

-- NOT PRINTED: function 41 (strings_Builder_Grow)

-- NOT PRINTED: function 28 (strings_Join)

/-! ### uri_Canon: function 12 (its contract proved by hand) -/

theorem cell_some_set {w : World} {a b : Addr} {u v : Value} (h : w.cell? b = some u) : ∃ x, (w.setCell a v).cell? b = some x := by
  by_cases e : b = a
  · subst e; exact ⟨v, World.cell?_setCell_same' _ _ _ (by rw [h]; rfl)⟩
  · exact ⟨u, by rw [World.cell?_setCell_other _ _ _ _ (fun h2 => e h2.symm)]; exact h⟩
def prs (l : List S37) : List Uri.Pr := l.map fun x => (x.f0.data.toList, x.f1.data.toList)
theorem prow_of (w : World) (A : Option Addr) (l : List S37) (h : Kd.C k37 w A l.length l) : PRow w A (prs l) := by
  intro h0
  rw [prs, List.length_map] at h0
  obtain ⟨ad, hA, c0, c1⟩ := at_T37 h ((0 : Nat) : Int) (by omega) (by omega)
  simp only [Int.toNat_natCast] at c0 c1
  have hsp := World.cell?_spot c0
  obtain ⟨g, o, sp⟩ := ad
  have hsp' : sp = none := by
    unfold Addr.add at hsp
    split at hsp
    · exact hsp
    · rename_i h9; exact absurd rfl h9
  subst hsp'
  rw [Addr.add_lit] at c0
  refine ⟨g, o, hA, World.block_lt_of_cell? w _ c0, fun j hj => ?_⟩
  rw [prs, List.length_map] at hj
  obtain ⟨ad2, hA2, d0, d1⟩ := at_T37 h (j : Int) (by omega) (by omega)
  rw [hA] at hA2
  cases hA2
  simp only [Int.toNat_natCast, Addr.add_lit] at d0 d1
  have e : rd_T37 l (j : Int) = l[j] := by unfold rd_T37; rw [Int.toNat_natCast, List.getD_eq_getElem?_getD, List.getElem?_eq_getElem hj]; rfl
  rw [e] at d0 d1
  rw [prs, List.getD_eq_getElem?_getD, List.getElem?_map, List.getElem?_eq_getElem hj]
  show w.cell? ⟨g, o + j * 2, none⟩ = some (str l[j].f0.data.toList) ∧ w.cell? ⟨g, o + j * 2 + 1, none⟩ = some (str l[j].f1.data.toList)
  rw [show str l[j].f0.data.toList = .string l[j].f0 from congrArg Value.string (Lib.mk_data _), show str l[j].f1.data.toList = .string l[j].f1 from congrArg Value.string (Lib.mk_data _)]
  exact ⟨d0, d1⟩
def uri_Canon.f (l0 : List S37) : Option ByteArray := if l0.length ≤ 1000 ∧ ∀ x ∈ l0, x.f0.size + x.f1.size ≤ 100000 then some ⟨(Uri.canon (prs l0)).toArray⟩ else none
theorem uri_Canon.calls (A0 : Option Addr) (c0 : Nat) (l0 : List S37) (r : ByteArray) (w : World) (hr0 : Kd.C k37 w A0 l0.length l0) (hc0 : l0.length ≤ c0) (h : uri_Canon.f l0 = some r) :
    Calls Tryd.prog 12 #[.slice A0 l0.length c0] w fun e w' => e = .returned (.string r) ∧ Below w.heap.size w w' := by
  unfold uri_Canon.f at h
  split at h
  case isFalse => cases h
  case isTrue hl =>
  obtain rfl := Option.some.inj h
  have h1 := uri_Canon (prs l0) A0 c0 w (prow_of w A0 l0 hr0) (by rw [prs, List.length_map]; exact hl.1) (fun k hk => by
    rw [prs, List.length_map] at hk
    have hm := hl.2 l0[k] (List.getElem_mem hk)
    rw [prs, List.getD_eq_getElem?_getD, List.getElem?_map, List.getElem?_eq_getElem hk]
    rw [Lib.size_eq, Lib.size_eq] at hm
    exact hm)
  rw [show (prs l0).length = l0.length by rw [prs, List.length_map]] at h1
  exact h1


end Go.Proofs.YtdfkinkihkgdbaaDoor.PUs
