/- The plain law of UploadPuts: what its printed functions compute, in lists and numbers: it is true whatever the input. -/
import Derived.Test.YtdfkinkihkgdbaaUpPure
import Derived.Test.YtdfkinkihkgdbaaPUpx8
namespace Go.Proofs.Ytdfkinkihkgdbaa.PUp
open Go.RowKit Go.Proofs.YtdfkinkihkgdbaaW.PrintWords Go.Proofs.YtdfkinkihkgdbaaW.PrintLast Go.Proofs.YtdfkinkihkgdbaaW.PrintMore
set_option linter.unusedVariables false

theorem both_right (l : List S50) (hn : l.length ≤ 200) (a0 a1 : ByteArray) (a2 a3 : Int) : ∀ (d k k' i : Nat) (last : Int), d = l.length - i → i ≤ l.length → d < k → d < k' → (i = 0 → last = 0) → (0 < i → last = pN l (i - 1)) →
    (∀ j, j < i → 1 ≤ pN l j ∧ pN l j ≤ 4 ∧ (pD l j).length ≤ 1536) → (∀ j, j + 1 < i → pN l j < pN l (j + 1)) →
    ∃ b, upload_Right.l0 k last l (l.length : Int) (i : Int) = some b ∧ steleref16_Right.l0 k' (i : Int) a0 a1 a2 a3 l = some b ∧ (b = true → Rt l)
  | d, k, k', i, last, hd, hi, hk, hk', hl0, hl1, h1, h2 => by
    obtain ⟨k, rfl⟩ : ∃ m, k = m + 1 := ⟨k - 1, by omega⟩
    obtain ⟨k', rfl⟩ : ∃ m, k' = m + 1 := ⟨k' - 1, by omega⟩
    cases d with
    | zero =>
      rw [steleref16_Right.l0, upload_Right.l0, if_neg (by omega), if_neg (by omega)]
      have hil : i = l.length := by omega
      subst hil
      exact ⟨true, rfl, rfl, fun _ => ⟨fun j hj => (h1 j hj).1, fun j hj => (h1 j hj).2.1, fun j hj => (h1 j hj).2.2, h2⟩⟩
    | succ d =>
      have eU : upload_Right.l0 (k + 1) last l (l.length : Int) (i : Int) = if (l.getD i z50).f0 ≤ last then some false else if (l.getD i z50).f0 > 4 then some false else if ((l.getD i z50).f1.length : Int) > 1536 then some false else upload_Right.l0 k (l.getD i z50).f0 l (l.length : Int) ((i + 1 : Nat) : Int) := by
        rw [upload_Right.l0, if_pos (by omega), if_pos (by omega), if_pos (by omega), rdT, w64 i (by omega)]
      have eR : steleref16_Right.l0 (k' + 1) (i : Int) a0 a1 a2 a3 l = if (l.getD i z50).f0 < 1 then some false else if (l.getD i z50).f0 > 4 then some false else if ((l.getD i z50).f1.length : Int) > 1536 then some false else if (i : Int) > 0 then (if 0 ≤ wrap64 ((i : Int) - 1) then (if wrap64 ((i : Int) - 1) < (l.length : Int) then (if (rd_T50 l (wrap64 ((i : Int) - 1))).f0 ≥ (l.getD i z50).f0 then some false else steleref16_Right.l0 k' ((i + 1 : Nat) : Int) a0 a1 a2 a3 l) else none) else none) else steleref16_Right.l0 k' ((i + 1 : Nat) : Int) a0 a1 a2 a3 l := by
        rw [steleref16_Right.l0, if_pos (by omega), if_pos (by omega), rdT, w64 i (by omega)]
      rw [eU, eR]
      clear eU eR
      have hlast : 0 ≤ last := by
        rcases Nat.eq_zero_or_pos i with h0 | h0
        · rw [hl0 h0]; omega
        · have := (h1 (i - 1) (by omega)).1
          rw [hl1 h0]; omega
      by_cases c1 : (l.getD i z50).f0 < 1
      · exact ⟨false, by rw [if_pos (by omega)], by rw [if_pos c1], fun h => by cases h⟩
      by_cases c2 : (l.getD i z50).f0 > 4
      · refine ⟨false, ?_, by rw [if_neg c1, if_pos c2], fun h => by cases h⟩
        by_cases c : (l.getD i z50).f0 ≤ last
        · rw [if_pos c]
        · rw [if_neg c, if_pos c2]
      by_cases c3 : ((l.getD i z50).f1.length : Int) > 1536
      · refine ⟨false, ?_, by rw [if_neg c1, if_neg c2, if_pos c3], fun h => by cases h⟩
        by_cases c : (l.getD i z50).f0 ≤ last
        · rw [if_pos c]
        · rw [if_neg c, if_neg c2, if_pos c3]
      have h1' : ∀ j, j < i + 1 → 1 ≤ pN l j ∧ pN l j ≤ 4 ∧ (pD l j).length ≤ 1536 := fun j hj => by
        rcases Nat.lt_succ_iff_lt_or_eq.1 hj with h | rfl
        · exact h1 j h
        · exact ⟨by show 1 ≤ (l.getD j z50).f0; omega, by show (l.getD j z50).f0 ≤ 4; omega, by show (l.getD j z50).f1.length ≤ 1536; omega⟩
      rw [if_neg c1, if_neg c2, if_neg c3, if_neg c2, if_neg c3]
      cases i with
      | zero =>
        rw [if_neg (show ¬ ((l.getD 0 z50).f0 ≤ last) by have := hl0 rfl; omega), if_neg (show ¬ (((0 : Nat) : Int) > 0) by omega)]
        exact both_right l hn a0 a1 a2 a3 d k k' 1 _ (by omega) (by omega) (by omega) (by omega) (by omega) (fun _ => rfl) h1' (fun j hj => by omega)
      | succ i =>
        have hw : wrap64 (((i + 1 : Nat) : Int) - 1) = (i : Int) := by unfold wrap64; omega
        have hla : last = (l.getD i z50).f0 := hl1 (by omega)
        rw [if_pos (show ((i + 1 : Nat) : Int) > 0 by omega), hw, if_pos (show (0 : Int) ≤ (i : Int) by omega), if_pos (show (i : Int) < (l.length : Int) by omega), rdT]
        by_cases c4 : (l.getD i z50).f0 ≥ (l.getD (i + 1) z50).f0
        · exact ⟨false, by rw [if_pos (by omega)], by rw [if_pos c4], fun h => by cases h⟩
        rw [if_neg (show ¬ ((l.getD (i + 1) z50).f0 ≤ last) by omega), if_neg c4]
        exact both_right l hn a0 a1 a2 a3 d k k' (i + 1 + 1) _ (by omega) (by omega) (by omega) (by omega) (by omega) (fun _ => rfl) h1' (fun j hj => by
          rcases Nat.lt_succ_iff_lt_or_eq.1 (show j < i + 1 by omega) with h | rfl
          · exact h2 j (by omega)
          · show (l.getD j z50).f0 < (l.getD (j + 1) z50).f0
            omega)
theorem right_true {l : List S50} (h : Rt l) (hn : l.length ≤ 200) : ∀ (d k i : Nat) (last : Int), d = l.length - i → i ≤ l.length → d < k → (i = 0 → last = 0) → (0 < i → last = pN l (i - 1)) → upload_Right.l0 k last l (l.length : Int) (i : Int) = some true
  | d, k, i, last, hd, hi, hk, hl0, hl1 => by
    obtain ⟨k, rfl⟩ : ∃ m, k = m + 1 := ⟨k - 1, by omega⟩
    rw [upload_Right.l0]
    cases d with
    | zero => rw [if_neg (by omega)]
    | succ d =>
      have e1 := h.lo i (by omega)
      have e2 := h.hi i (by omega)
      have e3 := h.len i (by omega)
      have e1 : 1 ≤ (l.getD i z50).f0 := e1
      have e2 : (l.getD i z50).f0 ≤ 4 := e2
      have e3 : (l.getD i z50).f1.length ≤ 1536 := e3
      have e4 : last < (l.getD i z50).f0 := by
        rcases Nat.eq_zero_or_pos i with h0 | h0
        · rw [hl0 h0]; omega
        · rw [hl1 h0]
          obtain ⟨q, rfl⟩ : ∃ q, i = q + 1 := ⟨i - 1, by omega⟩
          exact h.up q (by omega)
      rw [if_pos (by omega), if_pos (by omega), if_pos (by omega), rdT, if_neg (by omega), if_neg (by omega), if_neg (by omega), w64 i (by omega)]
      exact right_true h hn d k (i + 1) _ (by omega) (by omega) (by omega) (by omega) (fun _ => rfl)
/-- Where a number's part stands, or would stand. -/
structure Pos (l : List S50) (t : Int) (r : Nat) : Prop where
  le : r ≤ l.length
  lo : ∀ a, a < r → pN l a < t
  hi : ∀ a, r ≤ a → a < l.length → t ≤ pN l a
theorem pos_ex {l : List S50} (h : Rt l) (t : Int) : ∀ m, m ≤ l.length → ∃ r, r ≤ m ∧ (∀ a, a < r → pN l a < t) ∧ ∀ a, r ≤ a → a < m → t ≤ pN l a
  | 0, _ => ⟨0, Nat.le_refl _, fun a ha => by omega, fun a _ ha => by omega⟩
  | m + 1, hm => by
    obtain ⟨r, h1, h2, h3⟩ := pos_ex h t m (by omega)
    by_cases c : r = m ∧ pN l m < t
    · obtain ⟨rfl, c⟩ := c
      refine ⟨r + 1, Nat.le_refl _, fun a ha => ?_, fun a ha1 ha2 => by omega⟩
      rcases Nat.lt_succ_iff_lt_or_eq.1 ha with h4 | rfl
      · exact h2 a h4
      · exact c
    · refine ⟨r, by omega, h2, fun a ha1 ha2 => ?_⟩
      rcases Nat.lt_succ_iff_lt_or_eq.1 ha2 with h4 | rfl
      · exact h3 a ha1 h4
      · by_cases hr : r = a
        · have : ¬ pN l a < t := fun h => c ⟨hr, h⟩
          omega
        · have e1 := h3 r (Nat.le_refl _) (by omega)
          have e2 := h.lt a r (by omega) (by omega)
          omega
theorem at_pos {l : List S50} (h : Rt l) {t : Int} (t1 : 1 ≤ t) (t4 : t ≤ 4) {r : Nat} (hp : Pos l t r) : ∀ (d k lo hi : Nat), d = hi - lo → d < k → lo ≤ r → r ≤ hi → hi ≤ l.length →
    upload_at.b k l t (lo : Int) (hi : Int) = some ((r : Int), decide (r < l.length ∧ pN l r = t))
  | d, k, lo, hi, hd, hk, h1, h2, h3 => by
    obtain ⟨k, rfl⟩ : ∃ m, k = m + 1 := ⟨k - 1, by omega⟩
    rw [upload_at.b]
    by_cases c : lo < hi
    · have hm : ((lo : Int) + (hi : Int)) / 2 = (((lo + hi) / 2 : Nat) : Int) := by omega
      rw [if_pos (by omega), hm, rdT]
      have m1 := h.lo ((lo + hi) / 2) (by omega)
      have m2 := h.hi ((lo + hi) / 2) (by omega)
      have hw : wrap64 ((l.getD ((lo + hi) / 2) z50).f0 - t) = pN l ((lo + hi) / 2) - t := by show wrap64 (pN l ((lo + hi) / 2) - t) = _; unfold wrap64; omega
      rw [hw]
      by_cases c2 : (lo + hi) / 2 < r
      · have := hp.lo _ c2
        rw [if_pos (by omega), show (((lo + hi) / 2 : Nat) : Int) + 1 = (((lo + hi) / 2 + 1 : Nat) : Int) by omega]
        exact at_pos h t1 t4 hp (hi - ((lo + hi) / 2 + 1)) k _ hi rfl (by omega) (by omega) h2 h3
      · have := hp.hi ((lo + hi) / 2) (by omega) (by omega)
        rw [if_neg (by omega)]
        exact at_pos h t1 t4 hp ((lo + hi) / 2 - lo) k lo _ rfl (by omega) h1 (by omega) (by omega)
    · obtain rfl : lo = r := by omega
      rw [if_neg (by omega), rdT]
      congr 2
      by_cases c3 : lo < l.length
      · have m1 := h.lo lo c3
        have m2 := h.hi lo c3
        have hw : wrap64 ((l.getD lo z50).f0 - t) = pN l lo - t := by show wrap64 (pN l lo - t) = _; unfold wrap64; omega
        rw [hw, decide_eq_true (show ((lo : Int) < (l.length : Int)) by omega), Bool.true_and]
        by_cases c4 : pN l lo = t
        · rw [decide_eq_true (show pN l lo - t = 0 by omega), decide_eq_true ⟨c3, c4⟩]
        · rw [decide_eq_false (show ¬ pN l lo - t = 0 by omega), decide_eq_false (fun h => c4 h.2)]
      · rw [decide_eq_false (show ¬ ((lo : Int) < (l.length : Int)) by omega), Bool.false_and, decide_eq_false (fun h => c3 h.1)]
/-- The parts with one put. -/
def put (l : List S50) (t : Int) (data : List Int) (r : Nat) : List S50 := if r < l.length ∧ pN l r = t then l.set r ⟨t, data⟩ else l.take r ++ ⟨t, data⟩ :: l.drop r
theorem put_done {l : List S50} (hn : l.length ≤ 100) (t : Int) (data : List Int) (a0 a1 : ByteArray) (a2 a3 : Int) : ∀ (d k i : Nat) (out : List S50), d = l.length - i → i ≤ l.length → 2 * d < k → out.length ≤ 200 + i → (∀ a, i ≤ a → a < l.length → pN l a ≠ t) →
    steleref16_Put.l0 k t data out true (i : Int) a0 a1 a2 a3 l = some (a0, a1, a2, a3, out ++ l.drop i, 0)
  | d, k, i, out, hd, hi, hk, ho, hne => by
    obtain ⟨k, rfl⟩ : ∃ m, k = m + 1 := ⟨k - 1, by omega⟩
    rw [steleref16_Put.l0]
    cases d with
    | zero => rw [if_neg (by omega), if_pos rfl, List.drop_of_length_le (by omega), List.append_nil]
    | succ d =>
      obtain ⟨k, rfl⟩ : ∃ m, k = m + 1 := ⟨k - 1, by omega⟩
      have hx : ¬ (l.getD i z50).f0 = t := hne i (Nat.le_refl _) (by omega)
      rw [if_pos (by omega), if_pos rfl, steleref16_Put.j2, if_neg (by decide), if_pos (by omega), if_pos (by omega), rdT, if_neg hx, if_pos (by omega), w64 i (by omega),
        put_done hn t data a0 a1 a2 a3 d k (i + 1) _ (by omega) (by omega) (by omega) (by simp; omega) (fun a ha => hne a (by omega))]
      have hdr : l.drop i = l.getD i z50 :: l.drop (i + 1) := by
        rw [List.drop_eq_getElem_cons (by omega), List.getD_eq_getElem?_getD, List.getElem?_eq_getElem (by omega)]
        rfl
      rw [hdr]
      simp
theorem put_loop {l : List S50} (h : Rt l) (hn : l.length ≤ 100) {t : Int} (data : List Int) (a0 a1 : ByteArray) (a2 a3 : Int) {r : Nat} (hp : Pos l t r) : ∀ (d k i : Nat), d = l.length - i → i ≤ r → 2 * d + 3 < k →
    steleref16_Put.l0 k t data (l.take i) false (i : Int) a0 a1 a2 a3 l = some (a0, a1, a2, a3, put l t data r, 0)
  | d, k, i, hd, hi, hk => by
    obtain ⟨k, rfl⟩ : ∃ m, k = m + 1 := ⟨k - 1, by omega⟩
    have hle := hp.le
    have htl : (l.take i).length = i := by rw [List.length_take]; omega
    rw [steleref16_Put.l0]
    cases d with
    | zero =>
      obtain rfl : i = r := by omega
      have hil : i = l.length := by omega
      rw [if_neg (by omega), if_neg (by decide), if_pos (by omega)]
      unfold put
      rw [if_neg (by omega), List.drop_of_length_le (by omega)]
    | succ d =>
      obtain ⟨k, rfl⟩ : ∃ m, k = m + 1 := ⟨k - 1, by omega⟩
      have hdr : l.drop i = l.getD i z50 :: l.drop (i + 1) := by
        rw [List.drop_eq_getElem_cons (by omega), List.getD_eq_getElem?_getD, List.getElem?_eq_getElem (by omega)]
        rfl
      rw [if_pos (by omega), if_neg (by decide), if_pos (by omega), rdT, steleref16_Put.j2]
      by_cases c : i < r
      · have hx : (l.getD i z50).f0 < t := hp.lo i c
        rw [decide_eq_false (show ¬ (l.getD i z50).f0 ≥ t by omega), if_neg (by decide), if_pos (by omega), if_pos (by omega), rdT, if_neg (by omega), if_pos (by omega), w64 i (by omega)]
        have ht : l.take i ++ [(⟨(l.getD i z50).f0, (l.getD i z50).f1⟩ : S50)] = l.take (i + 1) := by
          rw [List.take_succ_eq_append_getElem (by omega), List.getD_eq_getElem?_getD, List.getElem?_eq_getElem (by omega)]
          rfl
        rw [ht]
        exact put_loop h hn data a0 a1 a2 a3 hp d k (i + 1) (by omega) (by omega) (by omega)
      · obtain rfl : i = r := by omega
        have hx : t ≤ (l.getD i z50).f0 := hp.hi i (Nat.le_refl _) (by omega)
        have hne : ∀ a, i + 1 ≤ a → a < l.length → pN l a ≠ t := fun a ha1 ha2 => by
          have e := h.lt a i (by omega) ha2
          have e : (l.getD i z50).f0 < pN l a := e
          omega
        rw [decide_eq_true (show (l.getD i z50).f0 ≥ t by omega), if_pos rfl, if_pos (by omega), Option.bind_some, if_pos (by omega), if_pos (by omega), rdT]
        by_cases c2 : (l.getD i z50).f0 = t
        · rw [if_pos c2, w64 i (by omega), put_done hn t data a0 a1 a2 a3 d k (i + 1) _ (by omega) (by omega) (by omega) (by simp; omega) hne]
          unfold put
          rw [if_pos ⟨by omega, c2⟩, List.set_eq_take_append_cons_drop, if_pos (by omega)]
          simp
        · rw [if_neg c2, if_pos (by simp; omega), w64 i (by omega), put_done hn t data a0 a1 a2 a3 d k (i + 1) _ (by omega) (by omega) (by omega) (by simp; omega) hne]
          unfold put
          rw [if_neg (fun h => c2 h.2), hdr]
          simp
theorem put_rt {l : List S50} (h : Rt l) {t : Int} (t1 : 1 ≤ t) (t4 : t ≤ 4) {data : List Int} (hd : data.length ≤ 1536) {r : Nat} (hp : Pos l t r) : Rt (put l t data r) ∧ (put l t data r).length ≤ l.length + 1 := by
  have hle := hp.le
  unfold put
  by_cases c : r < l.length ∧ pN l r = t
  · rw [if_pos c]
    have hlen : (l.set r (⟨t, data⟩ : S50)).length = l.length := List.length_set
    have hg : ∀ j, (l.set r (⟨t, data⟩ : S50)).getD j z50 = if j = r then ⟨t, data⟩ else l.getD j z50 := fun j => by
      rw [List.getD_eq_getElem?_getD, List.getD_eq_getElem?_getD]
      by_cases hj : j = r
      · subst hj
        rw [List.getElem?_set_self c.1, if_pos rfl]
        rfl
      · rw [List.getElem?_set_ne (Ne.symm hj), if_neg hj]
    have hN : ∀ j, pN (l.set r (⟨t, data⟩ : S50)) j = pN l j := fun j => by
      show ((l.set r (⟨t, data⟩ : S50)).getD j z50).f0 = _
      rw [hg]
      by_cases hj : j = r
      · rw [if_pos hj, hj]; exact c.2.symm
      · rw [if_neg hj]
    refine ⟨⟨fun j hj => by rw [hN]; exact h.lo j (by omega), fun j hj => by rw [hN]; exact h.hi j (by omega), fun j hj => ?_, fun j hj => by rw [hN, hN]; exact h.up j (by omega)⟩, by omega⟩
    show ((l.set r (⟨t, data⟩ : S50)).getD j z50).f1.length ≤ 1536
    rw [hg]
    by_cases hj2 : j = r
    · rw [if_pos hj2]; exact hd
    · rw [if_neg hj2]; exact h.len j (by omega)
  · rw [if_neg c]
    have hlen : (l.take r ++ (⟨t, data⟩ : S50) :: l.drop r).length = l.length + 1 := by
      rw [List.length_append, List.length_cons, List.length_take, List.length_drop]; omega
    have hg : ∀ j, (l.take r ++ (⟨t, data⟩ : S50) :: l.drop r).getD j z50 = if j < r then l.getD j z50 else if j = r then ⟨t, data⟩ else l.getD (j - 1) z50 := fun j => by
      have l1 : (l.take r).length = r := by rw [List.length_take]; omega
      rw [List.getD_eq_getElem?_getD, List.getD_eq_getElem?_getD]
      rcases Nat.lt_trichotomy j r with hj | hj | hj
      · rw [if_pos hj, List.getElem?_append_left (by omega), List.getElem?_take, if_pos hj]
      · subst hj
        rw [if_neg (by omega), if_pos rfl, List.getElem?_append_right (by omega), l1, Nat.sub_self]
        rfl
      · obtain ⟨q, rfl⟩ : ∃ q, j = r + 1 + q := ⟨j - (r + 1), by omega⟩
        rw [if_neg (by omega), if_neg (by omega), List.getElem?_append_right (by omega), l1, show r + 1 + q - r = q + 1 by omega, List.getElem?_cons_succ, List.getElem?_drop, show r + 1 + q - 1 = r + q by omega, List.getD_eq_getElem?_getD]
    have hgt : ∀ a, r ≤ a → a < l.length → t < pN l a := fun a ha1 ha2 => by
      have e1 := hp.hi a ha1 ha2
      by_cases hra : r = a
      · have : pN l a ≠ t := fun e => c ⟨by omega, by rw [hra]; exact e⟩
        omega
      · have e2 := h.lt a r (by omega) ha2
        have e3 := hp.hi r (Nat.le_refl _) (by omega)
        omega
    have hN : ∀ j, pN (l.take r ++ (⟨t, data⟩ : S50) :: l.drop r) j = if j < r then pN l j else if j = r then t else pN l (j - 1) := fun j => by
      show ((l.take r ++ (⟨t, data⟩ : S50) :: l.drop r).getD j z50).f0 = _
      rw [hg]
      split
      · rfl
      · split <;> rfl
    refine ⟨⟨fun j hj => ?_, fun j hj => ?_, fun j hj => ?_, fun j hj => ?_⟩, by omega⟩
    · rw [hN]
      split
      · exact h.lo j (by omega)
      · split
        · exact t1
        · exact h.lo (j - 1) (by omega)
    · rw [hN]
      split
      · exact h.hi j (by omega)
      · split
        · exact t4
        · exact h.hi (j - 1) (by omega)
    · show ((l.take r ++ (⟨t, data⟩ : S50) :: l.drop r).getD j z50).f1.length ≤ 1536
      rw [hg]
      split
      · exact h.len j (by omega)
      · split
        · exact hd
        · exact h.len (j - 1) (by omega)
    · rw [hN, hN]
      rcases Nat.lt_trichotomy (j + 1) r with h1 | h1 | h1
      · rw [if_pos (by omega), if_pos h1]; exact h.up j (by omega)
      · rw [if_pos (by omega), if_neg (by omega), if_pos h1]; exact hp.lo j (by omega)
      · by_cases h2 : j = r
        · rw [if_neg (show ¬ j < r by omega), if_pos h2, if_neg (show ¬ j + 1 < r by omega), if_neg (show ¬ j + 1 = r by omega), show j + 1 - 1 = j by omega, h2]
          exact hgt r (Nat.le_refl _) (by omega)
        · rw [if_neg (show ¬ j < r by omega), if_neg h2, if_neg (show ¬ j + 1 < r by omega), if_neg (show ¬ j + 1 = r by omega)]
          have := h.up (j - 1) (by omega)
          rw [show j - 1 + 1 = j by omega] at this
          exact this
theorem same16 (l : List S50) (hn : l.length ≤ 200) (a0 a1 : ByteArray) (a2 a3 : Int) (b0 b1 : ByteArray) (b2 b3 : Int) : ∀ (d k i : Nat), d = l.length - i → i ≤ l.length → d < k → steleref16_Same.l0 k (i : Int) a0 a1 a2 a3 l b0 b1 b2 b3 l = some true
  | d, k, i, hd, hi, hk => by
    obtain ⟨k, rfl⟩ : ∃ m, k = m + 1 := ⟨k - 1, by omega⟩
    rw [steleref16_Same.l0]
    cases d with
    | zero => rw [if_neg (by omega)]
    | succ d =>
      rw [if_pos (by omega), if_pos (by omega), if_pos (by omega), if_pos rfl, if_pos rfl, w64 i (by omega)]
      exact same16 l hn a0 a1 a2 a3 b0 b1 b2 b3 d k (i + 1) (by omega) (by omega) (by omega)
theorem same16_f (l : List S50) (hn : l.length ≤ 200) (a0 a1 : ByteArray) (a2 a3 : Int) (k : Nat) (hk : 300 ≤ k) : steleref16_Same.f k a0 a1 a2 a3 l a0 a1 a2 a3 l = some true := by
  unfold steleref16_Same.f
  obtain ⟨k, rfl⟩ : ∃ m, k = m + 1 := ⟨k - 1, by omega⟩
  rw [if_pos rfl, if_pos rfl, if_pos rfl, if_pos rfl, steleref16_Same.j0, if_neg (by simp)]
  exact same16 l hn a0 a1 a2 a3 a0 a1 a2 a3 l.length k 0 (by omega) (by omega) (by omega)
theorem puts_pure (a0 a1 : ByteArray) (a2 a3 : Int) (l : List S50) (t : Int) (data : List Int) (hB : ∀ j, (pD l j).length ≤ 140737488351232) (k : Nat) (hk : 10000 ≤ k) :
    stelelaw16_UploadPuts.f k a0 a1 a2 a3 l t data = some true := by
  obtain ⟨m, rfl⟩ : ∃ m, k = m + 1 := ⟨k - 1, by omega⟩
  have hj : stelelaw16_UploadPuts.j0 (m + 1) t data true a0 a1 a2 a3 l = some true := by
    rw [stelelaw16_UploadPuts.j0, if_pos rfl]
    rfl
  unfold stelelaw16_UploadPuts.f
  obtain ⟨b, e, hb⟩ := light_at l hB a0 a1 a2 a3 (m + 1) (by omega)
  rw [e, Option.bind_some]
  by_cases hbt : b = true
  · rw [if_pos hbt]
    have hn := hb hbt
    by_cases hD : ((data.length : Int) > 100000)
    · rw [decide_eq_true hD]; exact hj
    rw [decide_eq_false hD, stelelaw16_UploadPuts.j0, if_neg (by decide)]
    obtain ⟨q, e1, e2, hq⟩ := both_right l (by omega) a0 a1 a2 a3 l.length m m 0 0 (by omega) (by omega) (by omega) (by omega) (fun _ => rfl) (by omega) (fun j hj => by omega) (fun j hj => by omega)
    have e1 : upload_Right.f m a0 a1 a2 a3 l = some q := e1
    have e2 : steleref16_Right.f m a0 a1 a2 a3 l = some q := e2
    rw [e1, Option.bind_some, e2, Option.bind_some, if_neg (by simp), Option.bind_some]
    cases q with
    | false =>
      rw [if_neg (by decide)]
      rfl
    | true =>
      have h := hq rfl
      rw [if_pos rfl]
      have hal : (stelelaw16_alive.f).bind (fun t_ => some t_) = some true := rfl
      obtain ⟨m', hm'⟩ : ∃ m', m = m' + 1 := ⟨m - 1, by omega⟩
      have key : ∃ X : ByteArray × ByteArray × Int × Int × List S50 × Int, upload_Put.f m a0 a1 a2 a3 l t data = some X ∧ steleref16_Put.f m a0 a1 a2 a3 l t data = some X ∧
          steleref16_Same.f m X.1 X.2.1 X.2.2.1 X.2.2.2.1 X.2.2.2.2.1 X.1 X.2.1 X.2.2.1 X.2.2.2.1 X.2.2.2.2.1 = some true ∧ (X.2.2.2.2.2 = 0 → upload_Right.f m X.1 X.2.1 X.2.2.1 X.2.2.2.1 X.2.2.2.2.1 = some true) := by
        by_cases c1 : t < 1
        · refine ⟨((⟨#[]⟩ : ByteArray), (⟨#[]⟩ : ByteArray), 0, 0, ([] : List S50), 42), ?_, ?_, same16_f [] (by simp) _ _ _ _ m (by omega), fun h => absurd h (by decide)⟩
          · unfold upload_Put.f; rw [if_pos c1]
          · unfold steleref16_Put.f; rw [if_pos c1, hm', steleref16_Put.j0, if_pos rfl]
        by_cases c2 : t > 4
        · refine ⟨((⟨#[]⟩ : ByteArray), (⟨#[]⟩ : ByteArray), 0, 0, ([] : List S50), 42), ?_, ?_, same16_f [] (by simp) _ _ _ _ m (by omega), fun h => absurd h (by decide)⟩
          · unfold upload_Put.f; rw [if_neg c1, if_pos c2]
          · unfold steleref16_Put.f; rw [if_neg c1, hm', steleref16_Put.j0, if_pos (decide_eq_true c2)]
        by_cases c3 : (data.length : Int) > 1536
        · refine ⟨((⟨#[]⟩ : ByteArray), (⟨#[]⟩ : ByteArray), 0, 0, ([] : List S50), 3), ?_, ?_, same16_f [] (by simp) _ _ _ _ m (by omega), fun h => absurd h (by decide)⟩
          · unfold upload_Put.f; rw [if_neg c1, if_neg c2, if_pos c3]
          · unfold steleref16_Put.f; rw [if_neg c1, hm', steleref16_Put.j0, if_neg (by rw [decide_eq_false c2]; decide), if_pos c3]
        obtain ⟨r, r1, r2, r3⟩ := pos_ex h t l.length (Nat.le_refl _)
        have hp : Pos l t r := ⟨r1, r2, r3⟩
        obtain ⟨hrt, hlen⟩ := put_rt h (by omega) (by omega) (show data.length ≤ 1536 by omega) hp
        refine ⟨(a0, a1, a2, a3, put l t data r, 0), ?_, ?_, same16_f (put l t data r) (by omega) a0 a1 a2 a3 m (by omega), fun _ => right_true hrt (by omega) (put l t data r).length m 0 0 (by omega) (by omega) (by omega) (fun _ => rfl) (by omega)⟩
        · unfold upload_Put.f
          have hlim : upload_Put.lim l = true := by
            unfold upload_Put.lim
            simp only [Bool.and_eq_true, decide_eq_true_eq, List.all_eq_true]
            refine ⟨by omega, fun x hx => ?_⟩
            obtain ⟨j, hj, rfl⟩ := List.getElem_of_mem hx
            have := h.len j hj
            have e : pD l j = l[j].f1 := by show (l.getD j z50).f1 = _; rw [List.getD_eq_getElem?_getD, List.getElem?_eq_getElem hj]; rfl
            rw [e] at this
            omega
          rw [if_neg c1, if_neg c2, if_neg c3, if_pos hlim]
          have e := at_pos h (by omega) (by omega) hp l.length m 0 l.length (by omega) (by omega) (by omega) r1 (Nat.le_refl _)
          have e : upload_at.b m l t 0 (l.length : Int) = some ((r : Int), decide (r < l.length ∧ pN l r = t)) := e
          unfold upload_at.f
          rw [if_pos (by omega), e, Option.bind_some]
          unfold put
          by_cases c : r < l.length ∧ pN l r = t
          · rw [if_pos c, decide_eq_true c]
            simp
          · rw [if_neg c, decide_eq_false c]
            simp
        · unfold steleref16_Put.f
          rw [if_neg c1, hm', steleref16_Put.j0, if_neg (by rw [decide_eq_false c2]; decide), if_neg c3]
          exact put_loop h hn data a0 a1 a2 a3 hp l.length m' 0 (by omega) (by omega) (by omega)
      obtain ⟨X, u1, u2, u3, u4⟩ := key
      rw [u1, Option.bind_some, u2, Option.bind_some, if_pos rfl, u3, Option.bind_some, if_pos rfl]
      by_cases c : X.2.2.2.2.2 = 0
      · rw [if_pos c, u4 c, Option.bind_some, if_pos rfl]
        exact hal
      · rw [if_neg c]
        exact hal
  · rw [if_neg hbt]
    exact hj
end Go.Proofs.Ytdfkinkihkgdbaa.PUp
