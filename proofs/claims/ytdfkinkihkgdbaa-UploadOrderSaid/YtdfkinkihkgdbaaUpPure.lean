/- The plain law of UploadJoins: what its printed functions compute, in lists and numbers: it is true whatever the input. -/
import Derived.Test.YtdfkinkihkgdbaaPUpx5
namespace Go.Proofs.Ytdfkinkihkgdbaa.PUp
open Go.RowKit Go.Proofs.YtdfkinkihkgdbaaW.PrintWords Go.Proofs.YtdfkinkihkgdbaaW.PrintLast Go.Proofs.YtdfkinkihkgdbaaW.PrintMore
set_option linter.unusedVariables false

abbrev pN (l : List S50) (j : Nat) : Int := (l.getD j z50).f0
abbrev pD (l : List S50) (j : Nat) : List Int := (l.getD j z50).f1
theorem rdT (l : List S50) (j : Nat) : rd_T50 l (j : Int) = l.getD j z50 := by unfold rd_T50; rw [Int.toNat_natCast]
theorem rdI (l : List Int) (j : Nat) : rd l (j : Int) = l.getD j 0 := by unfold rd; rw [Int.toNat_natCast]
theorem w64 (i : Nat) (h : i < 1000000) : wrap64 ((i : Int) + 1) = ((i + 1 : Nat) : Int) := by unfold wrap64; omega
/-- The bytes from part i on. -/
def tot (l : List S50) : Nat → Nat
  | 0 => 0
  | d + 1 => (pD l (l.length - (d + 1))).length + tot l d
theorem tot_le (l : List S50) (B : Nat) (hB : ∀ j, (pD l j).length ≤ B) : ∀ d, tot l d ≤ d * B
  | 0 => by simp [tot]
  | d + 1 => by
    have h1 := tot_le l B hB d
    have h2 := hB (l.length - (d + 1))
    rw [tot, Nat.succ_mul]
    omega
theorem ref_total (l : List S50) (hn : l.length ≤ 100) (hB : ∀ j, (pD l j).length ≤ 140737488351232) (a0 a1 : ByteArray) (a2 a3 : Int) : ∀ (d k i x : Nat), d = l.length - i → i ≤ l.length → d < k → x ≤ i * 140737488351232 →
    steleref16_Total.l0 k (x : Int) (i : Int) a0 a1 a2 a3 l = some ((x + tot l d : Nat) : Int)
  | d, k, i, x, hd, hi, hk, hx => by
    obtain ⟨k, rfl⟩ : ∃ m, k = m + 1 := ⟨k - 1, by omega⟩
    rw [steleref16_Total.l0]
    cases d with
    | zero =>
      rw [if_neg (by omega)]
      rfl
    | succ d =>
      rw [if_pos (by omega), if_pos (by omega), rdT, w64 i (by omega)]
      have hb := hB i
      have hsum : wrap64 ((x : Int) + ((pD l i).length : Int)) = ((x + (pD l i).length : Nat) : Int) := by
        have h1 : i * 140737488351232 ≤ 100 * 140737488351232 := Nat.mul_le_mul_right _ (by omega)
        unfold wrap64
        omega
      show steleref16_Total.l0 k (wrap64 ((x : Int) + ((pD l i).length : Int))) _ a0 a1 a2 a3 l = _
      rw [hsum, ref_total l hn hB a0 a1 a2 a3 d k (i + 1) _ (by omega) (by omega) (by omega) (by rw [Nat.succ_mul]; omega), tot, show l.length - (d + 1) = i by omega]
      congr 2
      omega
theorem up_total (l : List S50) (hn : l.length ≤ 100) (hB : ∀ j, (pD l j).length ≤ 140737488351232) : ∀ (d k i x : Nat), d = l.length - i → i ≤ l.length → d < k → x ≤ i * 140737488351232 →
    upload_Total.l0 k (x : Int) l (l.length : Int) (i : Int) = some ((x + tot l d : Nat) : Int)
  | d, k, i, x, hd, hi, hk, hx => by
    obtain ⟨k, rfl⟩ : ∃ m, k = m + 1 := ⟨k - 1, by omega⟩
    rw [upload_Total.l0]
    cases d with
    | zero =>
      rw [if_neg (by omega)]
      rfl
    | succ d =>
      rw [if_pos (by omega), if_pos (by omega), if_pos (by omega), rdT, w64 i (by omega)]
      have hb := hB i
      have hsum : wrap64 ((x : Int) + ((pD l i).length : Int)) = ((x + (pD l i).length : Nat) : Int) := by
        have h1 : i * 140737488351232 ≤ 100 * 140737488351232 := Nat.mul_le_mul_right _ (by omega)
        unfold wrap64
        omega
      show upload_Total.l0 k (wrap64 ((x : Int) + ((pD l i).length : Int))) l _ _ = _
      rw [hsum, up_total l hn hB d k (i + 1) _ (by omega) (by omega) (by omega) (by rw [Nat.succ_mul]; omega), tot, show l.length - (d + 1) = i by omega]
      congr 2
      omega
/-- What 'right' means. -/
structure Rt (l : List S50) : Prop where
  lo : ∀ j, j < l.length → 1 ≤ pN l j
  hi : ∀ j, j < l.length → pN l j ≤ 4
  len : ∀ j, j < l.length → (pD l j).length ≤ 1536
  up : ∀ j, j + 1 < l.length → pN l j < pN l (j + 1)
theorem ref_right (l : List S50) (hn : l.length ≤ 100) (a0 a1 : ByteArray) (a2 a3 : Int) : ∀ (d k i : Nat), d = l.length - i → i ≤ l.length → d < k →
    (∀ j, j < i → 1 ≤ pN l j ∧ pN l j ≤ 4 ∧ (pD l j).length ≤ 1536) → (∀ j, j + 1 < i → pN l j < pN l (j + 1)) →
    ∃ b, steleref16_Right.l0 k (i : Int) a0 a1 a2 a3 l = some b ∧ (b = true → Rt l)
  | d, k, i, hd, hi, hk, h1, h2 => by
    obtain ⟨k, rfl⟩ : ∃ m, k = m + 1 := ⟨k - 1, by omega⟩
    rw [steleref16_Right.l0]
    cases d with
    | zero =>
      rw [if_neg (by omega)]
      have hil : i = l.length := by omega
      subst hil
      exact ⟨true, rfl, fun _ => ⟨fun j hj => (h1 j hj).1, fun j hj => (h1 j hj).2.1, fun j hj => (h1 j hj).2.2, h2⟩⟩
    | succ d =>
      rw [if_pos (by omega), if_pos (by omega), rdT, w64 i (by omega)]
      by_cases c1 : (l.getD i z50).f0 < 1
      · rw [if_pos c1]; exact ⟨false, rfl, fun h => by cases h⟩
      rw [if_neg c1]
      by_cases c2 : (l.getD i z50).f0 > 4
      · rw [if_pos c2]; exact ⟨false, rfl, fun h => by cases h⟩
      rw [if_neg c2]
      by_cases c3 : ((l.getD i z50).f1.length : Int) > 1536
      · rw [if_pos c3]; exact ⟨false, rfl, fun h => by cases h⟩
      rw [if_neg c3]
      have h1' : ∀ j, j < i + 1 → 1 ≤ pN l j ∧ pN l j ≤ 4 ∧ (pD l j).length ≤ 1536 := fun j hj => by
        rcases Nat.lt_succ_iff_lt_or_eq.1 hj with h | rfl
        · exact h1 j h
        · exact ⟨by show 1 ≤ (l.getD j z50).f0; omega, by show (l.getD j z50).f0 ≤ 4; omega, by show (l.getD j z50).f1.length ≤ 1536; omega⟩
      cases i with
      | zero =>
        rw [if_neg (by simp)]
        exact ref_right l hn a0 a1 a2 a3 d k 1 (by omega) (by omega) (by omega) h1' (fun j hj => by omega)
      | succ i =>
        have hw : wrap64 (((i + 1 : Nat) : Int) - 1) = (i : Int) := by unfold wrap64; omega
        rw [if_pos (by omega), hw, if_pos (by omega), if_pos (by omega), rdT]
        by_cases c4 : (l.getD i z50).f0 ≥ (l.getD (i + 1) z50).f0
        · rw [if_pos c4]; exact ⟨false, rfl, fun h => by cases h⟩
        rw [if_neg c4]
        exact ref_right l hn a0 a1 a2 a3 d k (i + 1 + 1) (by omega) (by omega) (by omega) h1' (fun j hj => by
          rcases Nat.lt_succ_iff_lt_or_eq.1 (show j < i + 1 by omega) with h | rfl
          · exact h2 j (by omega)
          · show (l.getD j z50).f0 < (l.getD (j + 1) z50).f0
            omega)
theorem Rt.lt {l : List S50} (h : Rt l) : ∀ (b a : Nat), a < b → b < l.length → pN l a < pN l b
  | 0, a, hab, _ => by omega
  | b + 1, a, hab, hb => by
    have h1 := h.up b hb
    rcases Nat.lt_succ_iff_lt_or_eq.1 hab with h2 | rfl
    · have h3 := h.lt b a h2 (by omega)
      omega
    · exact h1
theorem at_found {l : List S50} (h : Rt l) {t : Int} {j : Nat} (hj : j < l.length) (ht : pN l j = t) : ∀ (d k lo hi : Nat), d = hi - lo → d < k → lo ≤ j → j ≤ hi → hi ≤ l.length →
    upload_at.b k l t (lo : Int) (hi : Int) = some ((j : Int), true)
  | d, k, lo, hi, hd, hk, h1, h2, h3 => by
    obtain ⟨k, rfl⟩ : ∃ m, k = m + 1 := ⟨k - 1, by omega⟩
    rw [upload_at.b]
    have hr := h.lo j hj
    have hr2 := h.hi j hj
    by_cases c : lo < hi
    · have hm : ((lo : Int) + (hi : Int)) / 2 = (((lo + hi) / 2 : Nat) : Int) := by omega
      rw [if_pos (by omega), hm, rdT]
      have m1 := h.lo ((lo + hi) / 2) (by omega)
      have m2 := h.hi ((lo + hi) / 2) (by omega)
      have hw : wrap64 ((l.getD ((lo + hi) / 2) z50).f0 - t) = pN l ((lo + hi) / 2) - t := by show wrap64 (pN l ((lo + hi) / 2) - t) = _; unfold wrap64; omega
      rw [hw]
      by_cases c2 : (lo + hi) / 2 < j
      · have := h.lt j ((lo + hi) / 2) c2 hj
        rw [if_pos (by omega), show (((lo + hi) / 2 : Nat) : Int) + 1 = (((lo + hi) / 2 + 1 : Nat) : Int) by omega]
        exact at_found h hj ht (hi - ((lo + hi) / 2 + 1)) k _ hi rfl (by omega) (by omega) h2 h3
      · have : t ≤ pN l ((lo + hi) / 2) := by
          by_cases c3 : j = (lo + hi) / 2
          · rw [← c3]; omega
          · have := h.lt ((lo + hi) / 2) j (by omega) (by omega)
            omega
        rw [if_neg (by omega)]
        exact at_found h hj ht ((lo + hi) / 2 - lo) k lo _ rfl (by omega) h1 (by omega) (by omega)
    · obtain rfl : lo = j := by omega
      rw [if_neg (by omega), rdT]
      have hw : wrap64 ((l.getD lo z50).f0 - t) = 0 := by show wrap64 (pN l lo - t) = 0; unfold wrap64; omega
      rw [hw, decide_eq_true (show ((lo : Int) < (l.length : Int)) by omega)]
      rfl
theorem at_none {l : List S50} (h : Rt l) {t : Int} (t1 : -9223372036854775808 ≤ t) (t2 : t ≤ 9223372036854775807) (hno : ∀ j, j < l.length → pN l j ≠ t) : ∀ (d k lo hi : Nat), d = hi - lo → d < k → lo ≤ hi → hi ≤ l.length →
    ∃ r, upload_at.b k l t (lo : Int) (hi : Int) = some (r, false)
  | d, k, lo, hi, hd, hk, h1, h3 => by
    obtain ⟨k, rfl⟩ : ∃ m, k = m + 1 := ⟨k - 1, by omega⟩
    rw [upload_at.b]
    by_cases c : lo < hi
    · have hm : ((lo : Int) + (hi : Int)) / 2 = (((lo + hi) / 2 : Nat) : Int) := by omega
      rw [if_pos (by omega), hm]
      by_cases c2 : wrap64 ((rd_T50 l (((lo + hi) / 2 : Nat) : Int)).f0 - t) < 0
      · rw [if_pos c2, show (((lo + hi) / 2 : Nat) : Int) + 1 = (((lo + hi) / 2 + 1 : Nat) : Int) by omega]
        exact at_none h t1 t2 hno (hi - ((lo + hi) / 2 + 1)) k _ hi rfl (by omega) (by omega) h3
      · rw [if_neg c2]
        exact at_none h t1 t2 hno ((lo + hi) / 2 - lo) k lo _ rfl (by omega) (by omega) (by omega)
    · rw [if_neg (by omega), rdT]
      by_cases c4 : lo < l.length
      · have m1 := h.lo lo c4
        have m2 := h.hi lo c4
        have m3 := hno lo c4
        have hw : wrap64 ((l.getD lo z50).f0 - t) ≠ 0 := by show wrap64 (pN l lo - t) ≠ 0; unfold wrap64; omega
        exact ⟨_, by rw [decide_eq_false hw, Bool.and_false]⟩
      · exact ⟨_, by rw [decide_eq_false (show ¬ ((lo : Int) < (l.length : Int)) by omega), Bool.false_and]⟩
theorem inner_found {l : List S50} {L out : List Int} {i j0 : Nat} {a0 a1 : ByteArray} {a2 a3 : Int} {K : Nat} {R : Option (List Int × Int)} (hn : l.length ≤ 100) (hi : i < L.length) (hj0 : j0 < l.length) (ht : pN l j0 = L.getD i 0) (hb : ∀ a, a < j0 → pN l a ≠ L.getD i 0)
    (hR : ∀ (k : Nat) (c : Int), K ≤ k → steleref16_Join.j2 k L out (i : Int) (j0 : Int) c false a0 a1 a2 a3 l = R) :
    ∀ (d k j : Nat), d = j0 - j → j ≤ j0 → K + 2 * d + 5 ≤ k → steleref16_Join.l1 k L out (i : Int) (-1) (j : Int) a0 a1 a2 a3 l = R
  | d, k, j, hd, hj, hk => by
    obtain ⟨k, rfl⟩ : ∃ m, k = m + 1 + 1 + 1 := ⟨k - 3, by omega⟩
    rw [steleref16_Join.l1, if_pos (by omega), steleref16_Join.j2, if_pos (by decide), if_pos (by omega), if_pos (by omega), if_pos (by omega), if_pos (by omega), rdT, rdI, w64 j (by omega)]
    by_cases c : j = j0
    · subst c
      rw [if_pos ht, steleref16_Join.l1]
      by_cases c2 : j + 1 < l.length
      · rw [if_pos (by omega), decide_eq_false (show ¬ ((j : Int) < 0) by omega)]
        exact hR _ _ (by omega)
      · rw [if_neg (by omega)]
        exact hR _ _ (by omega)
    · rw [if_neg (hb j (by omega))]
      exact inner_found hn hi hj0 ht hb hR (j0 - (j + 1)) (k + 1) (j + 1) rfl (by omega) (by omega)
theorem inner_none {l : List S50} {L out : List Int} {i : Nat} {a0 a1 : ByteArray} {a2 a3 : Int} (hn : l.length ≤ 100) (hi : i < L.length) (hb : ∀ a, a < l.length → pN l a ≠ L.getD i 0) :
    ∀ (d k j : Nat), d = l.length - j → j ≤ l.length → 2 * d + 5 ≤ k → steleref16_Join.l1 k L out (i : Int) (-1) (j : Int) a0 a1 a2 a3 l = some ([], 42)
  | d, k, j, hd, hj, hk => by
    obtain ⟨k, rfl⟩ : ∃ m, k = m + 1 + 1 + 1 := ⟨k - 3, by omega⟩
    rw [steleref16_Join.l1]
    by_cases c : j < l.length
    · rw [if_pos (by omega), steleref16_Join.j2, if_pos (by decide), if_pos (by omega), if_pos (by omega), if_pos (by omega), if_pos (by omega), rdT, rdI, w64 j (by omega), if_neg (hb j c)]
      exact inner_none hn hi hb (l.length - (j + 1)) (k + 1) (j + 1) rfl (by omega) (by omega)
    · rw [if_neg (by omega), steleref16_Join.j2, if_neg (by decide), if_pos (by decide)]
theorem fnd {l : List S50} (h : Rt l) (t : Int) : (∃ j, j < l.length ∧ pN l j = t ∧ ∀ a, a < j → pN l a ≠ t) ∨ ∀ j, j < l.length → pN l j ≠ t := by
  by_cases c : ∃ j, j < l.length ∧ pN l j = t
  · obtain ⟨j, hj, ht⟩ := c
    exact .inl ⟨j, hj, ht, fun a ha => by have := h.lt j a ha hj; omega⟩
  · exact .inr fun j hj ht => c ⟨j, hj, ht⟩
theorem more_rounds_join (k : Nat) : ∀ (m : Nat), m ≤ k → ∀ (L out : List Int) (i : Int) (a0 a1 : ByteArray) (a2 a3 : Int) (l : List S50) (R : List Int × Int), steleref16_Join.l0 m L out i a0 a1 a2 a3 l = some R → steleref16_Join.l0 k L out i a0 a1 a2 a3 l = some R := by
  intro m hm
  induction hm with
  | refl => intro L out i a0 a1 a2 a3 l R h; exact h
  | step _ ih => intro L out i a0 a1 a2 a3 l R h; exact (steleref16_Join.mono_l _).1 _ _ _ _ _ _ _ _ R (ih _ _ _ _ _ _ _ _ _ h)
theorem both_join {l : List S50} (h : Rt l) (hn : l.length ≤ 100) {L : List Int} (hL : L.length ≤ 100) (hw : ∀ i, -9223372036854775808 ≤ L.getD i 0 ∧ L.getD i 0 ≤ 9223372036854775807) (a0 a1 : ByteArray) (a2 a3 : Int) (h0 : 0 < L.length) :
    ∀ (d k k' i : Nat) (all : List (List Int)) (last : Int), d = L.length - i → i ≤ L.length → all.length = i → all.flatten.length ≤ i * 1536 → (i = 0 → last = 0) → (0 < i → last = L.getD (i - 1) 0) → d + l.length + 3 ≤ k → d * (2 * l.length + 20) + 3 ≤ k' →
    ∃ R, upload_Join.l0 k all last L (L.length : Int) (i : Int) a0 a1 a2 a3 l = some R ∧ steleref16_Join.l0 k' L all.flatten (i : Int) a0 a1 a2 a3 l = some R ∧ R.1.length ≤ 153600
  | d, k, k', i, all, last, hd, hi, hal, hfl, hl0, hl1, hk, hk' => by
    obtain ⟨k, rfl⟩ : ∃ m, k = m + 1 := ⟨k - 1, by omega⟩
    obtain ⟨k', rfl⟩ : ∃ m, k' = m + 1 := ⟨k' - 1, by omega⟩
    rw [upload_Join.l0, steleref16_Join.l0]
    cases d with
    | zero =>
      have h1536 : i * 1536 ≤ 100 * 1536 := Nat.mul_le_mul_right _ (by omega)
      rw [if_neg (by omega), if_neg (by omega), if_neg (by omega)]
      refine ⟨(all.flatten, 0), ?_, rfl, by show all.flatten.length ≤ _; omega⟩
      unfold slices_Concat_byte_byte.f
      rw [if_pos (by omega), if_pos (by omega)]
      rfl
    | succ d =>
      have hil : i < L.length := by omega
      rw [if_pos (by omega), if_pos (by omega), if_pos (by omega), if_pos (by omega), rdI]
      have hw1 := hw i
      have hmul : (d + 1) * (2 * l.length + 20) = d * (2 * l.length + 20) + (2 * l.length + 20) := Nat.succ_mul _ _
      unfold upload_at.f
      rw [if_pos (by omega)]
      rcases fnd h (L.getD i 0) with ⟨j, hj, ht, hb⟩ | hno
      · have e := at_found h hj ht l.length k 0 l.length (by omega) (by omega) (by omega) (by omega) (Nat.le_refl _)
        have e : upload_at.b k l (L.getD i 0) 0 (l.length : Int) = some ((j : Int), true) := e
        rw [e, Option.bind_some]
        rw [if_pos rfl]
        have hlo := h.lo j hj
        by_cases c : L.getD i 0 ≤ last
        · -- refused by both
          have hi0 : 0 < i := by
            rcases Nat.eq_zero_or_pos i with h0 | h0
            · have := hl0 h0; omega
            · exact h0
          rw [if_pos c]
          refine ⟨_, rfl, ?_, by simp⟩
          refine inner_found (K := 1) hn hil hj ht hb (fun k c' hk => ?_) (j - 0) k' 0 rfl (by omega) (by omega)
          obtain ⟨k, rfl⟩ : ∃ m, k = m + 1 := ⟨k - 1, by omega⟩
          have hw2 : wrap64 ((i : Int) - 1) = ((i - 1 : Nat) : Int) := by unfold wrap64; omega
          have := hl1 hi0
          rw [steleref16_Join.j2, if_neg (by decide), if_neg (by omega), if_pos (by omega), hw2, if_pos (by omega), if_pos (by omega), if_pos (by omega), if_pos (by omega), rdI, rdI, if_pos (by omega)]
        · rw [if_neg c, if_pos (show (0 : Int) ≤ (j : Int) by omega), if_pos (show ((j : Int) < (l.length : Int)) by omega), if_pos (by omega), rdT, w64 i (by omega)]
          have hlen := h.len j hj
          obtain ⟨R, e1, e2, e3⟩ := both_join h hn hL hw a0 a1 a2 a3 h0 d k (d * (2 * l.length + 20) + 3) (i + 1) (all ++ [(l.getD j z50).f1]) (L.getD i 0) (by omega) (by omega) (by simp [hal]) (by
            rw [List.flatten_append, List.length_append, Nat.succ_mul]
            simp only [List.flatten_cons, List.flatten_nil, List.append_nil]
            have : (l.getD j z50).f1.length ≤ 1536 := hlen
            omega) (by omega) (fun _ => rfl) (by omega) (Nat.le_refl _)
          refine ⟨R, e1, ?_, e3⟩
          refine inner_found (K := d * (2 * l.length + 20) + 4) hn hil hj ht hb (fun k c' hk => ?_) (j - 0) k' 0 rfl (by omega) (by omega)
          obtain ⟨k, rfl⟩ : ∃ m, k = m + 1 := ⟨k - 1, by omega⟩
          have h1536 : i * 1536 ≤ 100 * 1536 := Nat.mul_le_mul_right _ (by omega)
          have hlen' : (l.getD j z50).f1.length ≤ 1536 := hlen
          have hmono : steleref16_Join.l0 k L ((all ++ [(l.getD j z50).f1]).flatten) ((i + 1 : Nat) : Int) a0 a1 a2 a3 l = some R := by
            have := more_rounds_join k (d * (2 * l.length + 20) + 3) (by omega) L ((all ++ [(l.getD j z50).f1]).flatten) ((i + 1 : Nat) : Int) a0 a1 a2 a3 l R e2
            exact this
          rw [List.flatten_append, List.flatten_cons, List.flatten_nil, List.append_nil] at hmono
          rw [steleref16_Join.j2, if_neg (by decide), if_neg (by omega)]
          by_cases hi0 : 0 < i
          · have hw2 : wrap64 ((i : Int) - 1) = ((i - 1 : Nat) : Int) := by unfold wrap64; omega
            have := hl1 hi0
            rw [if_pos (by omega), hw2, if_pos (by omega), if_pos (by omega), if_pos (by omega), if_pos (by omega), rdI, rdI, if_neg (by omega), if_pos (by omega), if_pos (by omega), rdT, if_pos (by omega), w64 i (by omega)]
            exact hmono
          · rw [if_neg (by omega), if_pos (by omega), if_pos (by omega), rdT, if_pos (by omega), w64 i (by omega)]
            exact hmono
      · obtain ⟨r, e⟩ := at_none h hw1.1 hw1.2 hno l.length k 0 l.length (by omega) (by omega) (by omega) (Nat.le_refl _)
        have e : upload_at.b k l (L.getD i 0) 0 (l.length : Int) = some (r, false) := e
        rw [e, Option.bind_some, if_neg (by simp)]
        exact ⟨_, rfl, inner_none hn hil hno (l.length - 0) k' 0 rfl (by omega) (by omega), by simp⟩
theorem same_refl (a : List Int) (ha : a.length < 900000) : ∀ (d k i : Nat), d = a.length - i → i ≤ a.length → d < k → steleref01_Same.l0 k a a (i : Int) = some true
  | d, k, i, hd, hi, hk => by
    obtain ⟨k, rfl⟩ : ∃ m, k = m + 1 := ⟨k - 1, by omega⟩
    rw [steleref01_Same.l0]
    cases d with
    | zero => rw [if_neg (by omega)]
    | succ d =>
      rw [if_pos (by omega), if_pos (by omega), if_pos (by omega), if_pos rfl, w64 i (by omega)]
      exact same_refl a ha d k (i + 1) (by omega) (by omega) (by omega)
theorem light_at (l : List S50) (hB : ∀ j, (pD l j).length ≤ 140737488351232) (a0 a1 : ByteArray) (a2 a3 : Int) (k : Nat) (hk : 200 ≤ k) : ∃ b, stelelaw16_light.f k a0 a1 a2 a3 l = some b ∧ (b = true → l.length ≤ 100) := by
  unfold stelelaw16_light.f
  by_cases hn : l.length ≤ 100
  · rw [if_pos (by omega)]
    have h := ref_total l hn hB a0 a1 a2 a3 l.length k 0 0 (by omega) (by omega) (by omega) (by omega)
    have h : steleref16_Total.f k a0 a1 a2 a3 l = some ((0 + tot l l.length : Nat) : Int) := h
    rw [h, Option.bind_some]
    exact ⟨_, rfl, fun _ => hn⟩
  · rw [if_neg (by omega)]
    exact ⟨false, rfl, fun h => by cases h⟩
theorem totals (l : List S50) (hn : l.length ≤ 100) (hB : ∀ j, (pD l j).length ≤ 140737488351232) (a0 a1 : ByteArray) (a2 a3 : Int) (k : Nat) (hk : 200 ≤ k) : ∃ t, upload_Total.f k a0 a1 a2 a3 l = some t ∧ steleref16_Total.f k a0 a1 a2 a3 l = some t :=
  ⟨_, up_total l hn hB l.length k 0 0 (by omega) (by omega) (by omega) (by omega), ref_total l hn hB a0 a1 a2 a3 l.length k 0 0 (by omega) (by omega) (by omega) (by omega)⟩
theorem joins_pure (a0 a1 : ByteArray) (a2 a3 : Int) (l : List S50) (L : List Int) (hB : ∀ j, (pD l j).length ≤ 140737488351232) (hw : ∀ i, -9223372036854775808 ≤ L.getD i 0 ∧ L.getD i 0 ≤ 9223372036854775807) (k : Nat) (hk : 400000 ≤ k) :
    stelelaw16_UploadJoins.f k a0 a1 a2 a3 l L = some true := by
  obtain ⟨m, rfl⟩ : ∃ m, k = m + 1 := ⟨k - 1, by omega⟩
  have hj : stelelaw16_UploadJoins.j0 (m + 1) L true a0 a1 a2 a3 l = some true := by
    rw [stelelaw16_UploadJoins.j0, if_pos rfl]
    rfl
  unfold stelelaw16_UploadJoins.f
  obtain ⟨b, e, hb⟩ := light_at l hB a0 a1 a2 a3 (m + 1) (by omega)
  rw [e, Option.bind_some]
  by_cases hbt : b = true
  · rw [if_pos hbt]
    have hn := hb hbt
    by_cases hL : (L.length : Int) > 100
    · rw [if_pos hL]; exact hj
    · rw [if_neg hL]
      obtain ⟨r, er, hr⟩ := ref_right l hn a0 a1 a2 a3 l.length (m + 1) 0 (by omega) (by omega) (by omega) (fun j hj => by omega) (fun j hj => by omega)
      have er : steleref16_Right.f (m + 1) a0 a1 a2 a3 l = some r := er
      rw [er, Option.bind_some]
      cases r with
      | false => exact hj
      | true =>
        have h := hr rfl
        rw [stelelaw16_UploadJoins.j0, if_neg (by decide)]
        obtain ⟨t, t1, t2⟩ := totals l hn hB a0 a1 a2 a3 m (by omega)
        by_cases h0 : L.length = 0
        · have u1 : upload_Join.f m a0 a1 a2 a3 l L = some ([], 42) := by
            unfold upload_Join.f
            obtain ⟨m, rfl⟩ : ∃ q, m = q + 1 := ⟨m - 1, by omega⟩
            rw [upload_Join.l0, if_neg (by omega), if_pos (by simp)]
          have u2 : steleref16_Join.f m a0 a1 a2 a3 l L = some ([], 42) := by
            unfold steleref16_Join.f
            rw [if_pos (by omega)]
          have u3 : steleref01_Same.f m [] [] = some true := by
            unfold steleref01_Same.f
            rw [if_pos rfl]
            exact same_refl [] (by simp) 0 m 0 rfl (Nat.le_refl _) (by omega)
          rw [u1, Option.bind_some, u2, Option.bind_some, if_pos rfl, u3, Option.bind_some, if_pos rfl, t1, Option.bind_some, t2, Option.bind_some, if_pos rfl]
          rfl
        · have hmul : L.length * (2 * l.length + 20) ≤ 100 * 220 := Nat.mul_le_mul (by omega) (by omega)
          obtain ⟨R, e1, e2, e3⟩ := both_join h hn (L := L) (by omega) hw a0 a1 a2 a3 (by omega) L.length m m 0 [] 0 (by omega) (by omega) rfl (by simp) (fun _ => rfl) (by omega) (by omega) (by omega)
          have u1 : upload_Join.f m a0 a1 a2 a3 l L = some R := e1
          have u2 : steleref16_Join.f m a0 a1 a2 a3 l L = some R := by
            unfold steleref16_Join.f
            rw [if_neg (by omega)]
            exact e2
          have u3 : steleref01_Same.f m R.1 R.1 = some true := by
            unfold steleref01_Same.f
            rw [if_pos rfl]
            exact same_refl R.1 (by omega) R.1.length m 0 rfl (by omega) (by omega)
          rw [u1, Option.bind_some, u2, Option.bind_some, if_pos rfl, u3, Option.bind_some, if_pos rfl, t1, Option.bind_some, t2, Option.bind_some, if_pos rfl]
          rfl
  · rw [if_neg hbt]
    exact hj
end Go.Proofs.Ytdfkinkihkgdbaa.PUp
