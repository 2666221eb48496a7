/- Texts of this proof, laid together: SgC, SgD, SgE, SgF, SgG, SgH, SgI, SgL. -/
import Derived.Test.YtghcadbmjglidaaGreatDoorAv6
set_option linter.unusedVariables false
set_option linter.unusedSimpArgs false
section
set_option linter.unusedVariables false
namespace Go.Proofs.YtghcadbmjglidaaGreatDoor.Sp
open Go.RowKit Go.Proofs.YtghcadbmjglidaaGreatDoor.PSg Go.Proofs.YtghcadbmjglidaaGreatDoorW.PrintWords Go.Proofs.YtghcadbmjglidaaGreatDoorW.PrintLast
theorem index_at (c : UInt8) (t r : List UInt8) (h : List UInt8) (hc : c ∉ h) : Lib.index (h ++ ((c :: t) ++ r)) (c :: t) = h.length := by
  refine Lib.index_first (by simp) ?_ ?_
  · unfold Lib.occAt
    rw [List.drop_left]
    exact List.isPrefixOf_iff_prefix.2 (List.prefix_append _ _)
  · intro j hj
    unfold Lib.occAt
    rw [List.drop_append_of_le_length (by omega), List.drop_eq_getElem_cons hj, List.cons_append]
    have : (c == h[j]) = false := beq_eq_false_iff_ne.2 (fun e => hc (e ▸ List.getElem_mem hj))
    simp [List.isPrefixOf, this]
theorem cut_at (c : UInt8) (t r : List UInt8) (h : List UInt8) (hc : c ∉ h) : Lib.cut (h ++ ((c :: t) ++ r)) (c :: t) = (h, r, true) := by
  unfold Lib.cut
  rw [index_at c t r h hc, if_pos (by omega), Int.toNat_natCast, List.take_left, ← List.drop_drop, List.drop_left, List.drop_left]
theorem splitB_parts (c : UInt8) : ∀ (n : Nat) (l : List UInt8), l.length ≤ n → Lib.splitB (B [c]) 0 (Lib.countB (B l) (B [c])) (B l) = (parts c l).map B
  | n, l, hn => by
    by_cases hm : c ∈ l
    · obtain ⟨h, t, rfl, hh⟩ := List.eq_append_cons_of_mem hm
      have hi : Lib.indexB (B (h ++ c :: t)) (B [c]) = (h.length : Int) := index_at c [] t h hh
      have he : (B (h ++ c :: t)).extract (h.length + (B [c]).size) (B (h ++ c :: t)).size = B t := by
        rw [extB]
        congr 2
        rw [show (B [c]).size = 1 from rfl, ← List.drop_drop, List.drop_left, szB]
        simp only [List.drop_succ_cons, List.drop_zero, List.length_append, List.length_cons]
        exact List.take_of_length_le (by omega)
      have hx : (B (h ++ c :: t)).extract 0 (h.length + 0) = B h := by
        rw [extB]
        congr 2
        simp
      rw [Lib.countB_hit (B (h ++ c :: t)) (B [c]) h.length (Nat.le_refl 1) hi, he, Nat.add_comm 1, Lib.splitB_hit _ _ _ _ h.length hi, he, hx, parts_at c t h (fun x hx e => hh (e ▸ hx))]
      rw [List.length_append, List.length_cons] at hn
      match n, hn with
      | n + 1, hn => rw [splitB_parts c n t (by omega)]; rfl
    · have hi : Lib.indexB (B l) (B [c]) = -1 := by
        rcases Lib.index_spec l [c] with ⟨h1, _⟩ | ⟨i, h1, h2, h3, _⟩
        · exact h1
        · exfalso
          have h9 := List.isPrefixOf_iff_prefix.1 h3
          obtain ⟨r, hr⟩ := h9
          exact hm (List.mem_of_mem_drop (hr ▸ by simp : c ∈ l.drop i))
      rw [Lib.splitB_miss _ _ _ _ hi, parts_not c l (fun x hx e => hm (e ▸ hx))]
      rfl
theorem lA_parts (s : List UInt8) : lA s = (parts 59 (cA4 s).1).map B := splitB_parts 59 _ _ (Nat.le_refl _)
theorem parts_jn (c : UInt8) : ∀ (L : List (List UInt8)), L ≠ [] → (∀ x ∈ L, c ∉ x) → parts c (Uri.jn [c] L) = L
  | [], h, _ => absurd rfl h
  | [x], _, h => by
    rw [Uri.jn_one]
    exact parts_not c x (fun y hy e => h x (List.mem_cons_self ..) (e ▸ hy))
  | x :: y :: t, _, h => by
    rw [show Uri.jn [c] (x :: y :: t) = x ++ c :: Uri.jn [c] (y :: t) from by simp [Uri.jn]]
    rw [parts_at c _ x (fun z hz e => h x (List.mem_cons_self ..) (e ▸ hz)), parts_jn c (y :: t) (by simp) (fun z hz => h z (List.mem_cons_of_mem _ hz))]
theorem nmB_mem : ∀ (last : List UInt8) (L : List (List UInt8)), nmB last L = true → ∀ x ∈ L, okN x = true
  | _, [], _, x, h => by cases h
  | last, y :: t, hn, x, h => by
    unfold nmB at hn
    simp only [Bool.and_eq_true] at hn
    rcases List.mem_cons.1 h with rfl | h
    · exact hn.1.1
    · exact nmB_mem y t hn.2 x h
theorem pN_no (c : UInt8) (h : pN c = true) : c ≠ 59 ∧ c ≠ 44 := by
  refine ⟨?_, ?_⟩ <;> rintro rfl <;> cases h
theorem okNs_facts {L : List (List UInt8)} (h : okNs L = true) : L ≠ [] ∧ L.length ≤ 24 ∧ (∀ x ∈ L, x.length ≤ 64) ∧ (∀ x ∈ L, 59 ∉ x) ∧ (∀ x ∈ L, 44 ∉ x) := by
  unfold okNs at h
  simp only [Bool.and_eq_true, decide_eq_true_eq, Bool.not_eq_true', List.isEmpty_eq_false_iff] at h
  have hm := nmB_mem [] L h.1.1
  refine ⟨h.1.2, h.2, ?_, ?_, ?_⟩
  · intro x hx
    have := hm x hx
    unfold okN at this
    simp only [Bool.and_eq_true, decide_eq_true_eq] at this
    exact this.2
  · intro x hx hc
    have := hm x hx
    unfold okN at this
    simp only [Bool.and_eq_true, decide_eq_true_eq, List.all_eq_true] at this
    exact (pN_no _ (this.1.1 _ hc)).1 rfl
  · intro x hx hc
    have := hm x hx
    unfold okN at this
    simp only [Bool.and_eq_true, decide_eq_true_eq, List.all_eq_true] at this
    exact (pN_no _ (this.1.1 _ hc)).2 rfl
theorem jn_mem : ∀ (c z : UInt8) (L : List (List UInt8)), z ∈ Uri.jn [c] L → z = c ∨ ∃ x ∈ L, z ∈ x
  | _, _, [], h => by cases h
  | c, z, [x], h => .inr ⟨x, List.mem_cons_self .., by rwa [Uri.jn_one] at h⟩
  | c, z, x :: y :: t, h => by
    rw [show Uri.jn [c] (x :: y :: t) = x ++ c :: Uri.jn [c] (y :: t) from by simp [Uri.jn]] at h
    rcases List.mem_append.1 h with h | h
    · exact .inr ⟨x, List.mem_cons_self .., h⟩
    · rcases List.mem_cons.1 h with h | h
      · exact .inl h
      · rcases jn_mem c z (y :: t) h with h | ⟨w, hw, hz⟩
        · exact .inl h
        · exact .inr ⟨w, List.mem_cons_of_mem _ hw, hz⟩
theorem parse {a d s : List UInt8} {L : List (List UInt8)} (h : rightB a d L s = true) :
    Lib.cut (showB a d L s) algA = ([], (cA1 (showB a d L s)).2.1, true) ∧ cA2 (showB a d L s) = (a, (cA2 (showB a d L s)).2.1, true) ∧ cA3 (showB a d L s) = (d, (cA3 (showB a d L s)).2.1, true) ∧ cA4 (showB a d L s) = (Uri.jn [59] L, s, true) ∧ parts 59 (Uri.jn [59] L) = L := by
  unfold rightB at h
  simp only [Bool.and_eq_true] at h
  obtain ⟨⟨⟨hA, hD⟩, hN⟩, hS⟩ := h
  have h1 : Lib.cut (showB a d L s) algA = ([], a ++ ([47] ++ (d ++ (scopeL ++ (headL ++ (Uri.jn [59] L ++ (sgA ++ s)))))), true) := cut_at 65 _ _ [] (by simp)
  have a47 : (47 : UInt8) ∉ a := by
    intro hc
    unfold okA at hA
    simp only [Bool.and_eq_true, List.all_eq_true] at hA
    have := hA.1.1 _ hc
    cases this
  have d47 : (47 : UInt8) ∉ d := by
    intro hc
    unfold okD at hD
    simp only [Bool.and_eq_true, List.all_eq_true] at hD
    have := hD.1 _ hc
    cases this
  have h2 : cA2 (showB a d L s) = (a, d ++ (scopeL ++ (headL ++ (Uri.jn [59] L ++ (sgA ++ s)))), true) := by
    unfold cA2 cA1
    rw [h1]
    exact cut_at 47 [] _ a a47
  have h3 : cA3 (showB a d L s) = (d, Uri.jn [59] L ++ (sgA ++ s), true) := by
    unfold cA3
    rw [h2]
    show Lib.cut (d ++ (scA ++ (Uri.jn [59] L ++ (sgA ++ s)))) scA = _
    exact cut_at 47 _ _ d d47
  have hf := okNs_facts hN
  have h4 : cA4 (showB a d L s) = (Uri.jn [59] L, s, true) := by
    unfold cA4
    rw [h3]
    refine cut_at 44 _ _ _ ?_
    intro hc
    rcases jn_mem _ _ _ hc with h | ⟨x, hx, hz⟩
    · cases h
    · exact hf.2.2.2.2 x hx hz
  refine ⟨?_, ?_, ?_, h4, parts_jn 59 L hf.1 hf.2.2.2.1⟩
  · rw [show (cA1 (showB a d L s)) = Lib.cut (showB a d L s) algA from rfl, h1]
  · rw [h2]
  · rw [h3]
theorem rjoin_l0 (L : List (List UInt8)) (c : UInt8) (hL : (L.map List.length).sum ≤ 100000000) (hl : L.length ≤ 1000000) : ∀ (d k i : Nat) (acc : List UInt8), d = L.length - i → i ≤ L.length → d < k → acc.length + (L.length - i) + ((L.drop i).map List.length).sum ≤ 200000000 →
    steleref06_Join.l0 k (L.map B) (B [c]) (B acc) (i : Int) = some (B (acc ++ (if 0 < i ∧ i < L.length then [c] else []) ++ Uri.jn [c] (L.drop i)))
  | d, k, i, acc, hd, hi, hk, ha => by
    obtain ⟨k, rfl⟩ : ∃ m, k = m + 1 := ⟨k - 1, by omega⟩
    rw [steleref06_Join.l0, List.length_map]
    cases d with
    | zero =>
      rw [if_neg (by omega), List.drop_eq_nil_of_le (by omega), if_neg (by omega)]
      simp [Uri.jn]
    | succ d =>
      have hlt : i < L.length := by omega
      have hsum : (L.drop i).map List.length = L[i].length :: (L.drop (i + 1)).map List.length := by rw [List.drop_eq_getElem_cons hlt]; rfl
      have hall : ((L.drop i).map List.length).sum ≤ 100000000 := by
        refine Nat.le_trans ?_ hL
        have := congrArg (fun l => (l.map List.length).sum) (List.take_append_drop i L)
        simp only [List.map_append, List.sum_append] at this
        omega
      rw [hsum, List.sum_cons] at ha hall
      have hjn : ∀ (pre : List UInt8), pre ++ Uri.jn [c] (L.drop i) = (pre ++ L[i]) ++ (if 0 < i + 1 ∧ i + 1 < L.length then [c] else []) ++ Uri.jn [c] (L.drop (i + 1)) := by
        intro pre
        rw [List.drop_eq_getElem_cons hlt]
        by_cases h : i + 1 < L.length
        · rw [if_pos ⟨by omega, h⟩, List.drop_eq_getElem_cons h]
          simp only [Uri.jn, List.flatMap_cons, List.append_assoc, List.cons_append, List.nil_append]
        · rw [if_neg (by omega), List.drop_eq_nil_of_le (by omega)]
          simp [Uri.jn]
      rw [if_pos (by omega), rdB L i hlt]
      by_cases h0 : (i : Int) > 0
      · rw [if_pos h0, show (B acc).size = acc.length from rfl, show (B [c]).size = 1 from rfl, if_pos (by omega), if_pos (by omega), appB, appB, szB, szB, if_pos (by rw [List.length_append, List.length_singleton]; omega), w1 i (by omega),
          rjoin_l0 L c hL hl d k (i + 1) _ (by omega) (by omega) (by omega) (by rw [List.length_append, List.length_append, List.length_singleton]; omega), if_pos (c := 0 < i ∧ i < L.length) ⟨by omega, hlt⟩]
        congr 2
        exact (hjn (acc ++ [c])).symm
      · rw [if_neg h0, appB, szB, szB, if_pos (by omega), if_pos (by omega), w1 i (by omega),
          rjoin_l0 L c hL hl d k (i + 1) _ (by omega) (by omega) (by omega) (by rw [List.length_append]; omega), if_neg (c := 0 < i ∧ i < L.length) (by omega)]
        congr 2
        rw [List.append_nil]
        exact (hjn acc).symm
theorem rjoin_f (L : List (List UInt8)) (c : UInt8) (hL : (L.map List.length).sum ≤ 100000000) (hl : L.length ≤ 1000000) (k : Nat) (hk : L.length < k) : steleref06_Join.f k (L.map B) (B [c]) = some (B (Uri.jn [c] L)) := by
  have := rjoin_l0 L c hL hl L.length k 0 [] rfl (Nat.zero_le _) hk (by simp; omega)
  rw [if_neg (by omega)] at this
  exact this
theorem rscope_f (d : List UInt8) (hd : d.length ≤ 100000000) : steleref06_scope.f (B d) = some (B (d ++ scopeL)) := by
  unfold steleref06_scope.f
  rw [if_pos (by rw [szB]; omega), show (⟨#[47, 108, 111, 99, 97, 108, 47, 115, 51, 47, 97, 119, 115, 52, 95, 114, 101, 113, 117, 101, 115, 116]⟩ : ByteArray) = B scopeL from rfl, appB]
theorem rshow_f (a d s : List UInt8) (L : List (List UInt8)) (ha : a.length ≤ 100000000) (hd : d.length ≤ 100000000) (hs : s.length ≤ 100000000) (hL : (L.map List.length).sum ≤ 100000000) (hl : L.length ≤ 1000000) (k : Nat) (hk : L.length < k) :
    steleref06_ShowAuth.f k (B a) (B d) (L.map B) (B s) = some (B (showB a d L s)) := by
  have hj := Uri.jn_len [59] L
  have hj2 : (Uri.jn [59] L).length ≤ 200000000 := by simp at hj; omega
  unfold steleref06_ShowAuth.f
  rw [if_pos (by rw [szB]; omega)]
  rw [show (⟨#[65, 87, 83, 52, 45, 72, 77, 65, 67, 45, 83, 72, 65, 50, 53, 54, 32, 67, 114, 101, 100, 101, 110, 116, 105, 97, 108, 61]⟩ : ByteArray) = B algA from rfl, appB, szB]
  rw [if_pos (by simp [algA]; omega), rscope_f d hd, Option.bind_some]
  rw [show (⟨#[47]⟩ : ByteArray) = B [47] from rfl, appB, szB, szB]
  rw [if_pos (by simp [algA, scopeL]; omega), appB, szB]
  rw [if_pos (by simp [algA, scopeL]; omega)]
  rw [show (⟨#[59]⟩ : ByteArray) = B [59] from rfl, rjoin_f L 59 hL hl k hk, Option.bind_some]
  rw [show (⟨#[44, 32, 83, 105, 103, 110, 101, 100, 72, 101, 97, 100, 101, 114, 115, 61]⟩ : ByteArray) = B headL from rfl, appB, szB, szB]
  rw [if_pos (by simp [algA, scopeL, headL]; omega), appB, szB]
  rw [if_pos (by simp [algA, scopeL, headL]; omega)]
  rw [show (⟨#[44, 32, 83, 105, 103, 110, 97, 116, 117, 114, 101, 61]⟩ : ByteArray) = B sgA from rfl, appB, szB, szB]
  rw [if_pos (by simp [algA, scopeL, headL, sgA]; omega), appB]
  unfold showB
  simp only [List.append_assoc]
end Go.Proofs.YtghcadbmjglidaaGreatDoor.Sp
end
section
set_option linter.unusedVariables false
namespace Go.Proofs.YtghcadbmjglidaaGreatDoor.Sp
open Go.RowKit Go.Proofs.YtghcadbmjglidaaGreatDoor.PSg Go.Proofs.YtghcadbmjglidaaGreatDoorW.PrintWords Go.Proofs.YtghcadbmjglidaaGreatDoorW.PrintLast
def dgS (x : Int) : Int := if x ≥ 48 ∧ x ≤ 57 then (x - 48) % 256 else if x ≥ 97 ∧ x ≤ 102 then ((x - 97) % 256) + 10 else 16
theorem dgS_f (x : Int) (k : Nat) (hk : 1 ≤ k) : steleref01_digit.f k x = some (dgS x) := by
  obtain ⟨k, rfl⟩ : ∃ m, k = m + 1 := ⟨k - 1, by omega⟩
  unfold steleref01_digit.f dgS
  simp only [steleref01_digit.j0, decide_eq_true_eq, Bool.false_eq_true, if_false]
  repeat' split
  all_goals first | rfl | (exfalso; omega)
theorem dgS_ok (c : UInt8) : (pS c = true → 0 ≤ dgS (c.toNat : Int) ∧ dgS (c.toNat : Int) ≤ 15) ∧ (pS c = false → dgS (c.toNat : Int) = 16) := by
  have hp := pS_int c
  unfold dgS
  generalize (c.toNat : Int) = x at *
  constructor
  · intro h
    have := hp.1 h
    repeat' split
    all_goals omega
  · intro h
    have : ¬ ((48 ≤ x ∧ x ≤ 57) ∨ (97 ≤ x ∧ x ≤ 102)) := fun h9 => by rw [h] at hp; cases hp.2 h9
    repeat' split
    all_goals omega
theorem unhex_l0 (l : List UInt8) (hl : l.length ≤ 100000000) : ∀ (n k i : Nat) (acc : List Int), l.length = i + 2 * n → 2 * n + 1 < k → acc.length ≤ i →
    ∃ r e, steleref01_Unhex.l0 k (B l) acc (i : Int) = some (r, e) ∧ ((e = 0 ∧ r.length = acc.length + n ∧ (l.drop i).all pS = true) ∨ (e = 4 ∧ (l.drop i).all pS = false))
  | 0, k, i, acc, hn, hk, ha => by
    obtain ⟨k, rfl⟩ : ∃ m, k = m + 1 := ⟨k - 1, by omega⟩
    rw [steleref01_Unhex.l0, szB, if_neg (by omega), List.drop_eq_nil_of_le (by omega)]
    exact ⟨acc, 0, rfl, .inl ⟨rfl, by omega, rfl⟩⟩
  | n + 1, k, i, acc, hn, hk, ha => by
    obtain ⟨k, rfl⟩ : ∃ m, k = m + 1 := ⟨k - 1, by omega⟩
    have h1 : i < l.length := by omega
    have h2 : i + 1 < l.length := by omega
    rw [steleref01_Unhex.l0, szB, if_pos (by omega), if_pos (by omega), btB l i h1, dgS_f _ _ (by omega), Option.bind_some, List.drop_eq_getElem_cons h1, List.drop_eq_getElem_cons h2, List.all_cons, List.all_cons]
    obtain ⟨k, rfl⟩ : ∃ m, k = m + 1 := ⟨k - 1, by omega⟩
    have d1 := dgS_ok l[i]
    have d2 := dgS_ok l[i + 1]
    cases q1 : pS l[i] with
    | false =>
      rw [if_pos (by rw [d1.2 q1]; decide), steleref01_Unhex.j1, if_pos rfl]
      exact ⟨[], 4, rfl, .inr ⟨rfl, rfl⟩⟩
    | true =>
      have e1 := d1.1 q1
      rw [if_neg (by omega), w1 i (by omega), if_pos (by omega), if_pos (by omega), btB l (i + 1) h2, dgS_f _ _ (by omega), Option.bind_some]
      cases q2 : pS l[i + 1] with
      | false =>
        rw [show decide (dgS (l[i + 1].toNat : Int) > 15) = true from by rw [d2.2 q2]; decide, steleref01_Unhex.j1, if_pos rfl]
        exact ⟨[], 4, rfl, .inr ⟨rfl, rfl⟩⟩
      | true =>
        have e2 := d2.1 q2
        obtain ⟨k, rfl⟩ : ∃ m, k = m + 1 := ⟨k - 1, by omega⟩
        rw [show decide (dgS (l[i + 1].toNat : Int) > 15) = false from decide_eq_false (by omega), steleref01_Unhex.j1, if_neg (by simp), szB, if_pos (by omega), if_pos (by omega), btB l i h1, dgS_f _ _ (by omega), Option.bind_some,
          w1 i (by omega), if_pos (by omega), if_pos (by omega), btB l (i + 1) h2, dgS_f _ _ (by omega), Option.bind_some, if_pos (by omega), w2 i (by omega)]
        generalize (wrap64 (wrap64 (dgS (l[i].toNat : Int) * 16) + dgS (l[i + 1].toNat : Int))) % 256 = v
        obtain ⟨r, e, h3, h4⟩ := unhex_l0 l hl n (k + 1) (i + 2) (acc ++ [v]) (by omega) (by omega) (by simp; omega)
        refine ⟨r, e, h3, ?_⟩
        rcases h4 with ⟨a, b, c⟩ | ⟨a, b⟩
        · exact .inl ⟨a, by rw [b]; simp; omega, by simpa using c⟩
        · exact .inr ⟨a, by simpa using b⟩
theorem unhex_f (l : List UInt8) (hl : l.length ≤ 100000000) (k : Nat) (hk : l.length + 2 < k) : ∃ r e, steleref01_Unhex.f k (B l) = some (r, e) ∧ ((decide (e = 0) && ((r.length : Int) == 32)) = okS l) := by
  unfold steleref01_Unhex.f okS
  rw [szB]
  by_cases h2 : (l.length : Int) % 2 = 0
  · rw [if_pos h2]
    obtain ⟨r, e, h3, h4⟩ := unhex_l0 l hl (l.length / 2) k 0 [] (by omega) (by omega) (Nat.le_refl _)
    refine ⟨r, e, h3, ?_⟩
    rcases h4 with ⟨a, b, c⟩ | ⟨a, b⟩
    · subst a
      rw [List.drop_zero] at c
      rw [c]
      simp only [decide_true, Bool.true_and]
      rw [b, Bool.eq_iff_iff]
      simp
      omega
    · subst a
      rw [List.drop_zero] at b
      rw [b]
      rfl
  · rw [if_neg h2]
    refine ⟨[], 4, rfl, ?_⟩
    rw [show decide (l.length = 64) = false from decide_eq_false (by omega), Bool.and_false]
    rfl
theorem rright_l0 (a d s : List UInt8) (L : List (List UInt8)) (M : Nat) (hM : M ≤ 100000000) (ha : a.length ≤ M) (hd : d.length ≤ M) (hs : s.length ≤ M) (hL : ∀ x ∈ L, x.length ≤ M) (hl : L.length ≤ 1000000) : ∀ (n k i : Nat), n = d.length - i → i ≤ d.length → n + 2 * M + L.length + 5 < k →
    steleref06_right.l0 k (i : Int) (B a) (B d) (L.map B) (B s) = some ((d.drop i).all pD && (okA a && (decide (d.length = 8) && (okNs L && okS s))))
  | n, k, i, hn, hi, hk => by
    obtain ⟨k, rfl⟩ : ∃ m, k = m + 1 := ⟨k - 1, by omega⟩
    rw [steleref06_right.l0, szB]
    cases n with
    | zero =>
      obtain ⟨r, e, h1, h2⟩ := unhex_f s (by omega) k (by omega)
      rw [if_neg (by omega), List.drop_eq_nil_of_le (by omega), h1, Option.bind_some, access_f a (by omega) k (by omega), Option.bind_some, List.all_nil, Bool.true_and]
      cases hA : okA a with
      | false => rw [if_neg (by simp)]; rfl
      | true =>
        rw [if_pos rfl, Bool.true_and]
        by_cases h8 : d.length = 8
        · rw [if_pos (by omega), rnames_f L M hM hL hl k (by omega), Option.bind_some, show decide (d.length = 8) = true from decide_eq_true h8, Bool.true_and]
          cases hN : okNs L with
          | false => rw [if_neg (by simp)]; rfl
          | true =>
            rw [if_pos rfl, Bool.true_and, ← h2]
            by_cases he : e = 0
            · rw [if_pos he, decide_eq_true he, Bool.true_and]
            · rw [if_neg he, decide_eq_false he, Bool.false_and]
        · rw [if_neg (by omega), show decide (d.length = 8) = false from decide_eq_false h8, Bool.false_and]
    | succ n =>
      have hlt : i < d.length := by omega
      have hp := pD_int d[i]
      rw [if_pos (by omega), if_pos (by omega), btB d i hlt, List.drop_eq_getElem_cons hlt, List.all_cons, w1 i (by omega), rright_l0 a d s L M hM ha hd hs hL hl n k (i + 1) (by omega) (by omega) (by omega)]
      generalize (d[i].toNat : Int) = x at *
      cases hq : pD d[i] with
      | true => rw [hq] at hp; have := hp.1 rfl; rw [if_neg (by omega), if_neg (by omega), Bool.true_and]
      | false =>
        rw [hq] at hp
        have : ¬ (48 ≤ x ∧ x ≤ 57) := fun h9 => by cases hp.2 h9
        repeat' split
        all_goals first | rfl | (exfalso; omega)
theorem rright_f (a d s : List UInt8) (L : List (List UInt8)) (M : Nat) (hM : M ≤ 100000000) (ha : a.length ≤ M) (hd : d.length ≤ M) (hs : s.length ≤ M) (hL : ∀ x ∈ L, x.length ≤ M) (hl : L.length ≤ 1000000) (k : Nat) (hk : 3 * M + L.length + 5 < k) :
    steleref06_right.f k (B a) (B d) (L.map B) (B s) = some (rightB a d L s) := by
  have := rright_l0 a d s L M hM ha hd hs hL hl d.length k 0 rfl (Nat.zero_le _) (by omega)
  unfold steleref06_right.f
  rw [show ((0 : Nat) : Int) = 0 from rfl] at this
  rw [this, List.drop_zero]
  unfold rightB okD
  congr 1
  cases d.all pD <;> cases okA a <;> cases decide (d.length = 8) <;> cases okNs L <;> cases okS s <;> rfl
theorem parts_sum (c : UInt8) : ∀ l : List UInt8, ((parts c l).map List.length).sum + (parts c l).length = l.length + 1
  | [] => rfl
  | x :: t => by
    have ih := parts_sum c t
    rw [parts_cons]
    split
    · rw [List.map_cons, List.sum_cons, List.length_cons, List.length_cons, List.length_nil]; omega
    · obtain ⟨y, r, h⟩ := parts_ne c t
      rw [h] at ih ⊢
      simp only [List.map_cons, List.sum_cons, List.length_cons] at ih ⊢
      omega
theorem parts_mem (c : UInt8) (l x : List UInt8) (h : x ∈ parts c l) : x.length ≤ l.length := by
  have h1 := parts_sum c l
  have h2 : x.length ≤ ((parts c l).map List.length).sum := by
    generalize parts c l = L at h
    clear h1
    induction L with
    | nil => cases h
    | cons y t ih =>
      rw [List.map_cons, List.sum_cons]
      rcases List.mem_cons.1 h with rfl | h
      · omega
      · have := ih h; omega
  have h4 : 1 ≤ (parts c l).length := by
    obtain ⟨y, r, h3⟩ := parts_ne c l
    rw [h3]
    simp
  omega
def rdS (s : List UInt8) : ByteArray × ByteArray × List ByteArray × ByteArray × Int :=
  if rightB (cA2 s).1 (cA3 s).1 (parts 59 (cA4 s).1) (cA4 s).2.1 = true ∧ showB (cA2 s).1 (cA3 s).1 (parts 59 (cA4 s).1) (cA4 s).2.1 = s then (B (cA2 s).1, B (cA3 s).1, (parts 59 (cA4 s).1).map B, B (cA4 s).2.1, 0)
  else (⟨#[]⟩, ⟨#[]⟩, [], ⟨#[]⟩, 20)
theorem cA_len (s : List UInt8) : (cA1 s).2.1.length ≤ s.length ∧ (cA2 s).1.length ≤ s.length ∧ (cA2 s).2.1.length ≤ s.length ∧ (cA3 s).1.length ≤ s.length ∧ (cA3 s).2.1.length ≤ s.length ∧ (cA4 s).1.length ≤ s.length ∧ (cA4 s).2.1.length ≤ s.length := by
  have h1 := cut_le s algA
  have h2 := cut_le (cA1 s).2.1 [47]
  have h3 := cut_le (cA2 s).2.1 scA
  have h4 := cut_le (cA3 s).2.1 sgA
  change (cA1 s).1.length ≤ _ ∧ (cA1 s).2.1.length ≤ _ at h1
  change (cA2 s).1.length ≤ _ ∧ (cA2 s).2.1.length ≤ _ at h2
  change (cA3 s).1.length ≤ _ ∧ (cA3 s).2.1.length ≤ _ at h3
  change (cA4 s).1.length ≤ _ ∧ (cA4 s).2.1.length ≤ _ at h4
  omega
theorem read_f (s : List UInt8) (hs : s.length ≤ 900000) (k : Nat) (hk : s.length + 1 < k) : sigv4_ReadAuth.f k (B s) = some (rdS s) := by
  obtain ⟨l1, l2, l3, l4, l5, l6, l7⟩ := cA_len s
  have hp := parts_sum 59 (cA4 s).1
  unfold sigv4_ReadAuth.f readA rdS
  rw [if_pos (by rw [szB]; omega), blB, lA_parts]
  rw [show sigv4_right.f k (ba (cA2 s).1) (ba (cA3 s).1) ((parts 59 (cA4 s).1).map B) (ba (cA4 s).2.1) = some (rightB (cA2 s).1 (cA3 s).1 (parts 59 (cA4 s).1) (cA4 s).2.1) from
    right_f _ _ _ _ (by omega) (by omega) (by omega) (fun x hx => by have := parts_mem 59 _ x hx; omega) (by omega) k (by omega)]
  rw [Option.bind_some]
  cases hr : rightB (cA2 s).1 (cA3 s).1 (parts 59 (cA4 s).1) (cA4 s).2.1 with
  | false => rw [if_neg (by simp), if_neg (by simp)]
  | true =>
    rw [if_pos rfl]
    rw [show sigv4_ShowAuth.f (ba (cA2 s).1) (ba (cA3 s).1) ((parts 59 (cA4 s).1).map B) (ba (cA4 s).2.1) = some (B (showB (cA2 s).1 (cA3 s).1 (parts 59 (cA4 s).1) (cA4 s).2.1)) from
      show_f _ _ _ _ (by omega) (by omega) (by omega) (by omega) (by omega)]
    rw [Option.bind_some, toL, toL]
    by_cases he : showB (cA2 s).1 (cA3 s).1 (parts 59 (cA4 s).1) (cA4 s).2.1 = s
    · rw [if_pos he, if_pos ⟨rfl, he⟩]; rfl
    · rw [if_neg he, if_neg (fun h => he h.2)]
theorem rread_f (s : List UInt8) (hs : s.length ≤ 20000) (k : Nat) (hk : 5 * s.length + 10 < k) : steleref06_ReadAuth.f k (B s) = some (rdS s) := by
  obtain ⟨l1, l2, l3, l4, l5, l6, l7⟩ := cA_len s
  have hp := parts_sum 59 (cA4 s).1
  have hr := fun (h : rightB (cA2 s).1 (cA3 s).1 (parts 59 (cA4 s).1) (cA4 s).2.1 = true) (he : showB (cA2 s).1 (cA3 s).1 (parts 59 (cA4 s).1) (cA4 s).2.1 = s) => parse h
  have hno : (¬ ((Lib.cut s algA).2.2 = true ∧ (cA2 s).2.2 = true ∧ (cA3 s).2.2 = true ∧ (cA4 s).2.2 = true ∧ (Lib.cut s algA).1 = [])) → rdS s = (⟨#[]⟩, ⟨#[]⟩, [], ⟨#[]⟩, 20) := by
    intro h
    unfold rdS
    rw [if_neg]
    rintro ⟨h1, h2⟩
    have h3 := hr h1 h2
    rw [h2] at h3
    obtain ⟨e1, e2, e3, e4, -⟩ := h3
    exact h ⟨by rw [e1], by rw [e2], by rw [e3], by rw [e4], by rw [e1]⟩
  unfold steleref06_ReadAuth.f
  rw [show steleref06_upto.f k (B s) (⟨#[65, 87, 83, 52, 45, 72, 77, 65, 67, 45, 83, 72, 65, 50, 53, 54, 32, 67, 114, 101, 100, 101, 110, 116, 105, 97, 108, 61]⟩ : ByteArray) = some (uptoR s algA) from upto_f s algA (by omega) (by decide) (by decide) k (by omega), Option.bind_some]
  cases q1 : (Lib.cut s algA).2.2 with
  | false =>
    have e1 : uptoR s algA = (B [], B [], false) := by unfold uptoR; rw [if_neg (by rw [q1]; simp)]
    rw [hno (by rw [q1]; simp), e1]
    dsimp only
    rw [show steleref06_upto.f k (B []) (⟨#[47]⟩ : ByteArray) = some (B [], B [], false) from upto_f [] [47] (by simp) (by decide) (by decide) k (by simp; omega), Option.bind_some]
    dsimp only
    rw [show steleref06_upto.f k (B []) (⟨#[47, 108, 111, 99, 97, 108, 47, 115, 51, 47, 97, 119, 115, 52, 95, 114, 101, 113, 117, 101, 115, 116, 44, 32, 83, 105, 103, 110, 101, 100, 72, 101, 97, 100, 101, 114, 115, 61]⟩ : ByteArray) = some (B [], B [], false) from upto_f [] scA (by simp) (by decide) (by decide) k (by simp; omega), Option.bind_some]
    dsimp only
    rw [show steleref06_upto.f k (B []) (⟨#[44, 32, 83, 105, 103, 110, 97, 116, 117, 114, 101, 61]⟩ : ByteArray) = some (B [], B [], false) from upto_f [] sgA (by simp) (by decide) (by decide) k (by simp; omega), Option.bind_some]
    dsimp only
    rw [show steleref04_Cut.f k (B []) 59 = some ((parts 59 []).map B) from cut_f [] 59 (by simp) k (by simp; omega), Option.bind_some, if_neg (by simp)]
  | true =>
    have e1 : uptoR s algA = (B (cA1 s).1, B (cA1 s).2.1, true) := by unfold uptoR; rw [if_pos q1]; rfl
    rw [e1]
    dsimp only
    rw [show steleref06_upto.f k (B (cA1 s).2.1) (⟨#[47]⟩ : ByteArray) = some (uptoR (cA1 s).2.1 [47]) from upto_f _ [47] (by omega) (by decide) (by decide) k (by omega), Option.bind_some]
    cases q2 : (cA2 s).2.2 with
    | false =>
      have e2 : uptoR (cA1 s).2.1 [47] = (B [], B [], false) := by unfold uptoR; rw [if_neg (by rw [show (Lib.cut (cA1 s).2.1 [47]).2.2 = (cA2 s).2.2 from rfl, q2]; simp)]
      rw [hno (by rw [q2]; simp), e2]
      dsimp only
      rw [show steleref06_upto.f k (B []) (⟨#[47, 108, 111, 99, 97, 108, 47, 115, 51, 47, 97, 119, 115, 52, 95, 114, 101, 113, 117, 101, 115, 116, 44, 32, 83, 105, 103, 110, 101, 100, 72, 101, 97, 100, 101, 114, 115, 61]⟩ : ByteArray) = some (B [], B [], false) from upto_f [] scA (by simp) (by decide) (by decide) k (by simp; omega), Option.bind_some]
      dsimp only
      rw [show steleref06_upto.f k (B []) (⟨#[44, 32, 83, 105, 103, 110, 97, 116, 117, 114, 101, 61]⟩ : ByteArray) = some (B [], B [], false) from upto_f [] sgA (by simp) (by decide) (by decide) k (by simp; omega), Option.bind_some]
      dsimp only
      rw [show steleref04_Cut.f k (B []) 59 = some ((parts 59 []).map B) from cut_f [] 59 (by simp) k (by simp; omega), Option.bind_some, if_pos rfl, if_neg (by simp)]
    | true =>
      have e2 : uptoR (cA1 s).2.1 [47] = (B (cA2 s).1, B (cA2 s).2.1, true) := by unfold uptoR; rw [if_pos (by rw [show (Lib.cut (cA1 s).2.1 [47]).2.2 = (cA2 s).2.2 from rfl, q2])]; rfl
      rw [e2]
      dsimp only
      rw [show steleref06_upto.f k (B (cA2 s).2.1) (⟨#[47, 108, 111, 99, 97, 108, 47, 115, 51, 47, 97, 119, 115, 52, 95, 114, 101, 113, 117, 101, 115, 116, 44, 32, 83, 105, 103, 110, 101, 100, 72, 101, 97, 100, 101, 114, 115, 61]⟩ : ByteArray) = some (uptoR (cA2 s).2.1 scA) from upto_f _ scA (by omega) (by decide) (by decide) k (by omega), Option.bind_some]
      cases q3 : (cA3 s).2.2 with
      | false =>
        have e3 : uptoR (cA2 s).2.1 scA = (B [], B [], false) := by unfold uptoR; rw [if_neg (by rw [show (Lib.cut (cA2 s).2.1 scA).2.2 = (cA3 s).2.2 from rfl, q3]; simp)]
        rw [hno (by rw [q3]; simp), e3]
        dsimp only
        rw [show steleref06_upto.f k (B []) (⟨#[44, 32, 83, 105, 103, 110, 97, 116, 117, 114, 101, 61]⟩ : ByteArray) = some (B [], B [], false) from upto_f [] sgA (by simp) (by decide) (by decide) k (by simp; omega), Option.bind_some]
        dsimp only
        rw [show steleref04_Cut.f k (B []) 59 = some ((parts 59 []).map B) from cut_f [] 59 (by simp) k (by simp; omega), Option.bind_some, if_pos rfl, if_pos rfl, if_neg (by simp)]
      | true =>
        have e3 : uptoR (cA2 s).2.1 scA = (B (cA3 s).1, B (cA3 s).2.1, true) := by unfold uptoR; rw [if_pos (by rw [show (Lib.cut (cA2 s).2.1 scA).2.2 = (cA3 s).2.2 from rfl, q3])]; rfl
        rw [e3]
        dsimp only
        rw [show steleref06_upto.f k (B (cA3 s).2.1) (⟨#[44, 32, 83, 105, 103, 110, 97, 116, 117, 114, 101, 61]⟩ : ByteArray) = some (uptoR (cA3 s).2.1 sgA) from upto_f _ sgA (by omega) (by decide) (by decide) k (by omega), Option.bind_some]
        cases q4 : (cA4 s).2.2 with
        | false =>
          have e4 : uptoR (cA3 s).2.1 sgA = (B [], B [], false) := by unfold uptoR; rw [if_neg (by rw [show (Lib.cut (cA3 s).2.1 sgA).2.2 = (cA4 s).2.2 from rfl, q4]; simp)]
          rw [hno (by rw [q4]; simp), e4]
          dsimp only
          rw [show steleref04_Cut.f k (B []) 59 = some ((parts 59 []).map B) from cut_f [] 59 (by simp) k (by simp; omega), Option.bind_some, if_pos rfl, if_pos rfl, if_pos rfl, if_neg (by simp)]
        | true =>
          have e4 : uptoR (cA3 s).2.1 sgA = (B (cA4 s).1, B (cA4 s).2.1, true) := by unfold uptoR; rw [if_pos (by rw [show (Lib.cut (cA3 s).2.1 sgA).2.2 = (cA4 s).2.2 from rfl, q4])]; rfl
          rw [e4]
          dsimp only
          rw [show steleref04_Cut.f k (B (cA4 s).1) 59 = some ((parts 59 (cA4 s).1).map B) from cut_f _ 59 (by omega) k (by omega), Option.bind_some, if_pos rfl, if_pos rfl, if_pos rfl, if_pos rfl, toL]
          by_cases h0 : (cA1 s).1 = []
          · rw [if_pos h0, rright_f _ _ _ _ s.length (by omega) l2 l4 l7 (fun x hx => by have := parts_mem 59 _ x hx; omega) (by omega) k (by omega), Option.bind_some]
            unfold rdS
            cases hrb : rightB (cA2 s).1 (cA3 s).1 (parts 59 (cA4 s).1) (cA4 s).2.1 with
            | false => rw [if_neg (by simp), if_neg (by simp)]
            | true =>
              rw [if_pos rfl, rshow_f _ _ _ _ (by omega) (by omega) (by omega) (by omega) (by omega) k (by omega), Option.bind_some, toL, toL]
              by_cases he : showB (cA2 s).1 (cA3 s).1 (parts 59 (cA4 s).1) (cA4 s).2.1 = s
              · rw [if_pos he, if_pos ⟨rfl, he⟩]
              · rw [if_neg he, if_neg (fun h => he h.2)]
          · rw [if_neg h0, hno (fun h => h0 h.2.2.2.2)]
end Go.Proofs.YtghcadbmjglidaaGreatDoor.Sp
end
section
set_option linter.unusedVariables false
namespace Go.Proofs.YtghcadbmjglidaaGreatDoor.Sp
open Go.RowKit Go.Proofs.YtghcadbmjglidaaGreatDoor.PSg Go.Proofs.YtghcadbmjglidaaGreatDoorW.PrintWords Go.Proofs.YtghcadbmjglidaaGreatDoorW.PrintLast
theorem decR_len (l : List UInt8) : (decR l).1.length ≤ l.length := by
  unfold decR
  cases h : Uri.dec l with
  | none => simp
  | some d => exact dec_le l d h
def Sz (M : Nat) (acc : List S185) : Prop := ∀ x ∈ acc, (bl x.f0).length ≤ M ∧ (bl x.f1).length ≤ M
theorem step_sz {M : Nat} {acc ps : List S185} {x : List UInt8} (hx : x.length ≤ M) (h : Sz M acc) (hs : stepQ acc x = some ps) : Sz M ps := by
  unfold stepQ at hs
  split at hs
  · cases hs
  · cases hs
    have hcl := cut1_le 61 x
    have l1 := decR_len (Uri.cut1 61 x).1
    have l2 := decR_len (Uri.cut1 61 x).2.1
    intro y hy
    rcases List.mem_append.1 hy with hy | hy
    · exact h y hy
    · rw [List.mem_singleton] at hy
      subst hy
      exact ⟨Nat.le_trans l1 (by omega), Nat.le_trans l2 (by omega)⟩
theorem G_sz {M : Nat} : ∀ (l : List (List UInt8)) (acc ps : List S185), (∀ x ∈ l, x.length ≤ M) → Sz M acc → l.foldl (fun (o : Option (List S185)) x => o.bind (fun acc => stepQ acc x)) (some acc) = some ps → Sz M ps
  | [], acc, ps, _, h, e => by cases e; exact h
  | x :: t, acc, ps, hl, h, e => by
    rw [List.foldl_cons] at e
    cases hq : stepQ acc x with
    | none => rw [Option.bind_some, hq, runQ_stuck] at e; cases e
    | some a =>
      rw [Option.bind_some, hq] at e
      exact G_sz t a ps (fun y hy => hl y (List.mem_cons_of_mem _ hy)) (step_sz (hl x (List.mem_cons_self ..)) h hq) e
theorem parts_ne' (c : UInt8) : ∀ l, ∃ x r, parts c l = x :: r
  | [] => ⟨[], [], rfl⟩
  | x :: t => by
    rw [parts_cons]
    obtain ⟨y, r, h⟩ := parts_ne' c t
    split
    · exact ⟨_, _, rfl⟩
    · rw [h]; exact ⟨_, _, rfl⟩
theorem parts_len (c : UInt8) : ∀ (l : List UInt8) (x : List UInt8), x ∈ parts c l → x.length ≤ l.length
  | [], x, h => by simp [parts] at h; subst h; simp
  | y :: t, x, h => by
    rw [parts_cons] at h
    split at h
    · rcases List.mem_cons.1 h with rfl | h
      · simp
      · have := parts_len c t x h; simp; omega
    · obtain ⟨a, r, hr⟩ := parts_ne' c t
      rw [hr] at h
      have hm := parts_len c t
      rw [hr] at hm
      rcases List.mem_cons.1 h with rfl | h
      · have := hm a (List.mem_cons_self ..); simp; omega
      · have := hm x (List.mem_cons_of_mem _ h); simp; omega
theorem resQ_sz (s : List UInt8) : Sz s.length (resQ s).1 ∧ (resQ s).1.length ≤ 24 := by
  unfold resQ
  split
  · exact ⟨(show Sz _ [] from fun x hx => absurd hx (List.not_mem_nil)), by simp⟩
  · cases hr : runQ (parts 38 s) with
    | none => exact ⟨(show Sz _ [] from fun x hx => absurd hx (List.not_mem_nil)), by simp⟩
    | some ps => exact ⟨G_sz (parts 38 s) [] ps (fun x hx => parts_len 38 s x hx) (show Sz _ [] from fun x hx => absurd hx (List.not_mem_nil)) hr, runQ_len hr⟩
theorem sum_le {α : Type} (f : α → Nat) (M : Nat) : ∀ (l : List α), (∀ x ∈ l, f x ≤ M) → (l.map f).sum ≤ M * l.length
  | [], _ => by simp
  | x :: t, h => by
    have h1 := h x (List.mem_cons_self ..)
    have h2 := sum_le f M t (fun y hy => h y (List.mem_cons_of_mem _ hy))
    rw [List.map_cons, List.sum_cons, List.length_cons, Nat.mul_add]
    omega
theorem canon_len (l : List Uri.Pr) (M : Nat) (h : ∀ x ∈ l, x.1.length ≤ M ∧ x.2.length ≤ M) : (Uri.canon l).length ≤ (6 * M + 2) * l.length := by
  unfold Uri.canon
  have h1 := Uri.jn_len [38] ((Uri.sorted (l.map Uri.enc2)).map Uri.piece)
  have hp : (Uri.sorted (l.map Uri.enc2)).Perm (l.map Uri.enc2) := Uri.sorted_perm _
  have hl : (Uri.sorted (l.map Uri.enc2)).length = l.length := by rw [hp.length_eq, List.length_map]
  have h2 : (((Uri.sorted (l.map Uri.enc2)).map Uri.piece).map List.length).sum ≤ (6 * M + 1) * l.length := by
    rw [List.map_map]
    refine Nat.le_trans (sum_le _ (6 * M + 1) _ ?_) (by rw [hl]; exact Nat.le_refl _)
    intro x hx
    obtain ⟨y, hy, rfl⟩ := List.mem_map.1 (hp.mem_iff.1 hx)
    have := h y hy
    have e1 := enc_le false y.1
    have e2 := enc_le false y.2
    simp only [Function.comp, Uri.piece, Uri.enc2, List.length_append, List.length_cons, List.length_nil]
    omega
  rw [List.length_map, hl] at h1
  have h3 : (6 * M + 2) * l.length = (6 * M + 1) * l.length + l.length := by rw [show 6 * M + 2 = (6 * M + 1) + 1 from rfl, Nat.add_mul, Nat.one_mul]
  rw [h3]
  simp only [List.length_cons, List.length_nil] at h1
  omega
theorem or_f (a b : Int) (k : Nat) (hk : 3 ≤ k) : api_Errno.f k [a, b] = some (orZ [a, b]) := by
  obtain ⟨k, rfl⟩ : ∃ m, k = m + 3 := ⟨k - 3, by omega⟩
  have e1 : wrap64 (0 + 1) = 1 := by unfold wrap64; omega
  have e2 : wrap64 (1 + 1) = 2 := by unfold wrap64; omega
  unfold api_Errno.f
  rw [api_Errno.l0, show ((([a, b] : List Int).length : Nat) : Int) = 2 from rfl, if_pos (by decide), if_pos (by decide), if_pos (by decide), show rd [a, b] 0 = a from rfl, e1]
  unfold orZ
  by_cases h1 : a = 0
  · rw [if_pos h1, if_pos h1, api_Errno.l0, show ((([a, b] : List Int).length : Nat) : Int) = 2 from rfl, if_pos (by decide), if_pos (by decide), if_pos (by decide), show rd [a, b] 1 = b from rfl, e2]
    unfold orZ
    by_cases h2 : b = 0
    · rw [if_pos h2, if_pos h2, api_Errno.l0, if_neg (by decide)]; rfl
    · rw [if_neg h2, if_neg h2]
  · rw [if_neg h1, if_neg h1]
def bodyS (body : List Int) : List UInt8 := hexZ (shaOf (body.map Int.toNat))
def lineL (hs : List S55) (n : List UInt8) : List UInt8 := n ++ [58] ++ bl (findH hs (B n)).1
def textL (m p q : List UInt8) (hs : List S55) (body : List Int) (ns : List (List UInt8)) : List UInt8 :=
  Uri.jn [10] ([m, Uri.enc true (decR p).1, Uri.canon (prs (resQ q).1)] ++ ns.map (lineL hs) ++ [[], Uri.jn [59] ns, bodyS body])
def canZ (m p q : List UInt8) (hs : List S55) (body : List Int) (ns : List (List UInt8)) : ByteArray × Int :=
  if okNs ns = true then
    if ns.all (fun n => (findH hs (B n)).2) = true then
      if orZ [(decR p).2, (resQ q).2] = 0 then (B (textL m p q hs body ns), 0) else (⟨#[]⟩, 13)
    else (⟨#[]⟩, 11)
  else (⟨#[]⟩, 11)
theorem bodyS_len (body : List Int) : (bodyS body).length = 64 := by unfold bodyS; rw [hexZ_len, shaOf_len32]
structure Small (m p q : List UInt8) (hs : List S55) (body : List Int) : Prop where
  m : m.length ≤ 40000
  p : p.length ≤ 40000
  q : q.length ≤ 40000
  hl : hs.length ≤ 1000
  hv : ∀ x ∈ hs, (bl x.f1).length ≤ 40000
  bl : body.length ≤ 1000000
  bb : ∀ x ∈ body, 0 ≤ x ∧ x < 256
theorem findH_len {hs : List S55} {M : Nat} (h : ∀ x ∈ hs, (bl x.f1).length ≤ M) (n : ByteArray) : (bl (findH hs n).1).length ≤ M := by
  unfold findH
  cases hf : hs.find? (fun x => x.f0.toList == n.toList) with
  | none => exact Nat.zero_le _
  | some y => exact h y (List.mem_of_find?_eq_some hf)
theorem toNat_back (l : List Int) (h : ∀ x ∈ l, 0 ≤ x ∧ x < 256) : ∀ x ∈ (shaOf (l.map Int.toNat)).map (fun n : Nat => (n : Int)), 0 ≤ x ∧ x < 256 := by
  intro x hx
  obtain ⟨y, hy, rfl⟩ := List.mem_map.1 hx
  have := sha_lt _ y hy
  omega
theorem B_bl (b : ByteArray) : B (bl b) = b := Lib.mk_data b
theorem text_sum (m p q : List UInt8) (hs : List S55) (body : List Int) (ns : List (List UInt8)) (hS : Small m p q hs body) (hn : ns.length ≤ 24) (hnl : ∀ x ∈ ns, x.length ≤ 64) :
    ((([m, Uri.enc true (decR p).1, Uri.canon (prs (resQ q).1)] ++ ns.map (lineL hs) ++ [[], Uri.jn [59] ns, bodyS body]).map List.length).sum) ≤ 8000000 := by
  have h1 := enc_le true (decR p).1
  have h2 := decR_len p
  have h3 := resQ_sz q
  have h4 := canon_len (prs (resQ q).1) 40000 (fun x hx => by
    obtain ⟨y, hy, rfl⟩ := List.mem_map.1 hx
    have h9 := h3.1 y hy
    exact ⟨Nat.le_trans h9.1 hS.q, Nat.le_trans h9.2 hS.q⟩)
  rw [show (prs (resQ q).1).length = (resQ q).1.length from List.length_map ..] at h4
  have h5 : (6 * 40000 + 2) * (resQ q).1.length ≤ (6 * 40000 + 2) * 24 := Nat.mul_le_mul_left _ h3.2
  have h6 : ((ns.map (lineL hs)).map List.length).sum ≤ 40065 * 24 := by
    rw [List.map_map]
    refine Nat.le_trans (sum_le _ 40065 ns ?_) (Nat.mul_le_mul_left _ hn)
    intro x hx
    have a := hnl x hx
    have b := findH_len hS.hv (B x)
    show (x ++ [58] ++ bl (findH hs (B x)).1).length ≤ _
    rw [List.length_append, List.length_append, List.length_singleton]
    omega
  have h7 := Uri.jn_len [59] ns
  have h8 : (ns.map List.length).sum ≤ 64 * 24 := Nat.le_trans (sum_le _ 64 ns hnl) (Nat.mul_le_mul_left _ hn)
  have h9 := bodyS_len body
  have := hS.m
  have := hS.p
  simp only [List.map_append, List.sum_append, List.map_cons, List.map_nil, List.sum_cons, List.sum_nil, List.length_nil]
  simp only [List.length_singleton] at h7
  omega
theorem can_l0 (m p q : List UInt8) (hs : List S55) (body : List Int) (ns : List (List UInt8)) (hS : Small m p q hs body) (hn : ns.length ≤ 24) (hn1 : ns ≠ []) (hnl : ∀ x ∈ ns, x.length ≤ 64) : ∀ (d k i : Nat), d = ns.length - i → i ≤ ns.length → d + 3 < k → (∀ j (hj : j < i) (h2 : j < ns.length), (findH hs (B ns[j])).2 = true) →
    sigv4_Canonical.l0 k (ns.map B) (decR p).2 (resQ q).2 (([m, Uri.enc true (decR p).1, Uri.canon (prs (resQ q).1)] ++ (ns.take i).map (lineL hs)).map B) (ns.map B) (ns.length : Int) (i : Int) (B m) (B p) (B q) hs body =
      some (if ns.all (fun n => (findH hs (B n)).2) = true then (if orZ [(decR p).2, (resQ q).2] = 0 then (B (textL m p q hs body ns), 0) else (⟨#[]⟩, 13)) else (⟨#[]⟩, 11))
  | d, k, i, hd, hi, hk, hf => by
    obtain ⟨k, rfl⟩ : ∃ m, k = m + 1 := ⟨k - 1, by omega⟩
    rw [sigv4_Canonical.l0]
    cases d with
    | zero =>
      have hie : i = ns.length := by omega
      subst hie
      rw [if_neg (by omega), or_f _ _ _ (by omega), Option.bind_some, List.take_length]
      have hall : ns.all (fun n => (findH hs (B n)).2) = true := by
        rw [List.all_eq_true]
        intro x hx
        obtain ⟨j, hj, rfl⟩ := List.mem_iff_getElem.1 hx
        exact hf j hj hj
      rw [if_pos hall]
      by_cases ho : orZ [(decR p).2, (resQ q).2] = 0
      · rw [if_pos ho, if_pos ho]
        have hsum : (ns.map List.length).sum ≤ 64 * 24 := Nat.le_trans (sum_le _ 64 ns hnl) (Nat.mul_le_mul_left _ hn)
        rw [show strings_Join.f (ns.map B) (⟨#[59]⟩ : ByteArray) = some (B (Uri.jn [59] ns)) from by
          unfold strings_Join.f
          rw [if_pos ⟨by simp; omega, by decide, by decide, by rw [List.map_map]; exact Nat.le_trans hsum (by decide)⟩, jn_map]
          rfl, Option.bind_some]
        rw [show digest_Sha256.f body = some (shaZ body) from if_pos ⟨by have := hS.bl; omega, hS.bb⟩, Option.bind_some]
        rw [show digest_Hex.f (shaZ body) = some (B (bodyS body)) from by
          unfold digest_Hex.f shaZ
          rw [if_pos ⟨by rw [List.length_map, shaOf_len32]; decide, toNat_back body hS.bb⟩]
          rfl, Option.bind_some, Option.bind_some]
        have hts := text_sum m p q hs body ns hS hn hnl
        have hcat : ([m, Uri.enc true (decR p).1, Uri.canon (prs (resQ q).1)] ++ ns.map (lineL hs)).map B ++ ([(⟨#[]⟩ : ByteArray), B (Uri.jn [59] ns), B (bodyS body)] : List ByteArray) = ([m, Uri.enc true (decR p).1, Uri.canon (prs (resQ q).1)] ++ ns.map (lineL hs) ++ [[], Uri.jn [59] ns, bodyS body]).map B := by
          rw [List.map_append (l₂ := [[], Uri.jn [59] ns, bodyS body])]
          rfl
        rw [hcat, if_pos (by simp; omega)]
        rw [show strings_Join.f (([m, Uri.enc true (decR p).1, Uri.canon (prs (resQ q).1)] ++ ns.map (lineL hs) ++ [[], Uri.jn [59] ns, bodyS body]).map B) (⟨#[10]⟩ : ByteArray) = some (B (textL m p q hs body ns)) from by
          unfold strings_Join.f
          rw [if_pos ⟨by simp; omega, by decide, by decide, by rw [List.map_map]; exact Nat.le_trans hts (by decide)⟩, jn_map]
          rfl, Option.bind_some]
      · rw [if_neg ho, if_neg ho]
    | succ d =>
      have hlt : i < ns.length := by omega
      have hx := hnl _ (List.getElem_mem hlt)
      have hv := findH_len hS.hv (B ns[i])
      rw [if_pos (by omega), if_pos (by omega), if_pos (by rw [List.length_map]; omega), rdB ns i hlt]
      unfold request_Get.f
      rw [if_pos (by have := hS.hl; omega), Option.bind_some]
      cases hq : (findH hs (B ns[i])).2 with
      | false =>
        rw [if_neg (by simp), if_neg]
        intro hall
        rw [List.all_eq_true] at hall
        rw [hall _ (List.getElem_mem hlt)] at hq
        cases hq
      | true =>
        rw [if_pos rfl, szB, if_pos (by omega), show (⟨#[58]⟩ : ByteArray) = B [58] from rfl, appB, szB]
        have hv2 : (findH hs (B ns[i])).1.size ≤ 40000 := by rw [Lib.size_eq]; exact hv
        rw [if_pos (by rw [List.length_append, List.length_singleton]; omega), if_pos (by simp; omega), w1 i (by omega)]
        have hstep : ([m, Uri.enc true (decR p).1, Uri.canon (prs (resQ q).1)] ++ (ns.take i).map (lineL hs)).map B ++ [B (ns[i] ++ [58]) ++ (findH hs (B ns[i])).1] = ([m, Uri.enc true (decR p).1, Uri.canon (prs (resQ q).1)] ++ (ns.take (i + 1)).map (lineL hs)).map B := by
          have e : B (ns[i] ++ [58]) ++ (findH hs (B ns[i])).1 = B (lineL hs ns[i]) := by
            rw [show (findH hs (B ns[i])).1 = B (bl (findH hs (B ns[i])).1) from (B_bl _).symm, appB]
            rfl
          rw [e, List.take_succ_eq_append_getElem hlt, List.map_append (f := lineL hs), ← List.append_assoc, List.map_append (l₂ := List.map (lineL hs) [ns[i]])]
          rfl
        rw [hstep]
        exact can_l0 m p q hs body ns hS hn hn1 hnl d k (i + 1) (by omega) (by omega) (by omega) (fun j hj h2 => by
          by_cases e : j = i
          · subst e; exact hq
          · exact hf j (by omega) h2)
theorem okNs_bounds {L : List (List UInt8)} (h : okNs L = true) : L ≠ [] ∧ L.length ≤ 24 ∧ (∀ x ∈ L, okN x = true) := by
  unfold okNs at h
  simp only [Bool.and_eq_true, decide_eq_true_eq, Bool.not_eq_true', List.isEmpty_eq_false_iff] at h
  refine ⟨h.1.2, h.2, ?_⟩
  have key : ∀ (last : List UInt8) (L : List (List UInt8)), nmB last L = true → ∀ x ∈ L, okN x = true := by
    intro last L
    induction L generalizing last with
    | nil => intro _ x hx; cases hx
    | cons y t ih =>
      intro hn x hx
      unfold nmB at hn
      simp only [Bool.and_eq_true] at hn
      rcases List.mem_cons.1 hx with rfl | hx
      · exact hn.1.1
      · exact ih y hn.2 x hx
  exact key [] L h.1.1
theorem okN_len {x : List UInt8} (h : okN x = true) : x.length ≤ 64 := by
  unfold okN at h
  simp only [Bool.and_eq_true, decide_eq_true_eq] at h
  exact h.2
theorem can_f (m p q : List UInt8) (hs : List S55) (body : List Int) (ns : List (List UInt8)) (hS : Small m p q hs body) (hn : ns.length ≤ 1000) (hnl : ∀ x ∈ ns, x.length ≤ 1000000) (k : Nat) (hk : 2000 < k) :
    sigv4_Canonical.f k (B m) (B p) (B q) hs body (ns.map B) = some (canZ m p q hs body ns) := by
  unfold sigv4_Canonical.f canZ
  rw [names_f ns (fun x hx => Nat.le_trans (hnl x hx) (by decide)) (by omega) k (by omega), Option.bind_some]
  cases hN : okNs ns with
  | false => rw [if_neg (by simp), if_neg (by simp)]
  | true =>
    have hb := okNs_bounds hN
    have h3 := resQ_sz q
    have := hS.p
    have := hS.q
    rw [if_pos rfl, if_pos rfl]
    rw [show uri_Decode.f (B p) = some (B (decR p).1, (decR p).2) from if_pos (by rw [szB]; omega), Option.bind_some]
    rw [show uri_Query.f (B q) = some (resQ q) from if_pos (by rw [szB]; omega), Option.bind_some]
    have hd := decR_len p
    rw [show uri_Encode.f (B (decR p).1) true = some (B (Uri.enc true (decR p).1)) from if_pos (by rw [szB]; omega), Option.bind_some]
    rw [show uri_Canon.f (resQ q).1 = some (B (Uri.canon (prs (resQ q).1))) from if_pos ⟨by omega, fun x hx => by have := h3.1 x hx; rw [Lib.size_eq, Lib.size_eq]; exact Nat.le_trans (Nat.add_le_add this.1 this.2) (by omega)⟩, Option.bind_some, List.length_map]
    exact can_l0 m p q hs body ns hS hb.2.1 hb.1 (fun x hx => okN_len (hb.2.2 x hx)) ns.length k 0 rfl (Nat.zero_le _) (by omega) (fun j hj => absurd hj (Nat.not_lt_zero _))
end Go.Proofs.YtghcadbmjglidaaGreatDoor.Sp
end
section
set_option linter.unusedVariables false
namespace Go.Proofs.YtghcadbmjglidaaGreatDoor.Sp
open Go.RowKit Go.Proofs.YtghcadbmjglidaaGreatDoor.PSg Go.Proofs.YtghcadbmjglidaaGreatDoorW.PrintWords Go.Proofs.YtghcadbmjglidaaGreatDoorW.PrintLast
theorem two_pr (x : Int) (h0 : 0 ≤ x) (h1 : x < 100) : twoZ (pr1 x) (pr2 x) = x := by
  have a := pr1_ok x h0 h1
  have b := pr2_ok x h0 h1
  unfold twoZ
  generalize (pr1 x).toNat = u at *
  generalize (pr2 x).toNat = v at *
  rw [if_pos (by omega)]
  omega
def timeL (a b c d e f g : Int) : List UInt8 := [pr1 a, pr2 a, pr1 b, pr2 b, pr1 c, pr2 c, pr1 d, pr2 d, 84, pr1 e, pr2 e, pr1 f, pr2 f, pr1 g, pr2 g, 90]
def showT (t : Int) : List UInt8 := timeL ((Clk.civ (t / 86400)).1 / 100) ((Clk.civ (t / 86400)).1 % 100) (Clk.civ (t / 86400)).2.1 (Clk.civ (t / 86400)).2.2 (t % 86400 / 3600) (t % 86400 / 60 % 60) (t % 86400 % 60)
theorem showT_len (t : Int) : (showT t).length = 16 := rfl
theorem civ_ok (t : Int) (h0 : 0 ≤ t) (h1 : t ≤ 253402300799) : Clk.day (Clk.civ (t / 86400)).1 (Clk.civ (t / 86400)).2.1 (Clk.civ (t / 86400)).2.2 = (t / 86400, 0) ∧ 1 ≤ (Clk.civ (t / 86400)).1 ∧ (Clk.civ (t / 86400)).1 ≤ 9999 ∧ 1 ≤ (Clk.civ (t / 86400)).2.1 ∧ (Clk.civ (t / 86400)).2.1 ≤ 12 ∧ 1 ≤ (Clk.civ (t / 86400)).2.2 ∧ (Clk.civ (t / 86400)).2.2 ≤ 31 :=
  Clk.day_civ (t / 86400) (by omega) (by omega)
theorem read_show (t : Int) (h0 : 0 ≤ t) (h1 : t ≤ 253402300799) : readZ (showT t) = (t, 0) := by
  obtain ⟨hd, y1, y2, m1, m2, d1, d2⟩ := civ_ok t h0 h1
  unfold showT
  generalize hy : (Clk.civ (t / 86400)).1 = y at *
  generalize hm : (Clk.civ (t / 86400)).2.1 = m at *
  generalize hdd : (Clk.civ (t / 86400)).2.2 = d at *
  have e1 := two_pr (y / 100) (by omega) (by omega)
  have e2 := two_pr (y % 100) (by omega) (by omega)
  have e3 := two_pr m (by omega) (by omega)
  have e4 := two_pr d (by omega) (by omega)
  have e5 := two_pr (t % 86400 / 3600) (by omega) (by omega)
  have e6 := two_pr (t % 86400 / 60 % 60) (by omega) (by omega)
  have e7 := two_pr (t % 86400 % 60) (by omega) (by omega)
  have hyy : 100 * (y / 100) + y % 100 = y := by omega
  have key : ∀ a b c d e f g : Int, readZ (timeL a b c d e f g) =
      if 99 < twoZ (pr1 a) (pr2 a) ∨ 99 < twoZ (pr1 b) (pr2 b) ∨ 23 < twoZ (pr1 e) (pr2 e) ∨ 59 < twoZ (pr1 f) (pr2 f) ∨ 59 < twoZ (pr1 g) (pr2 g) then (0, 6)
      else if (Clk.day (100 * twoZ (pr1 a) (pr2 a) + twoZ (pr1 b) (pr2 b)) (twoZ (pr1 c) (pr2 c)) (twoZ (pr1 d) (pr2 d))).2 ≠ 0 ∨ (Clk.day (100 * twoZ (pr1 a) (pr2 a) + twoZ (pr1 b) (pr2 b)) (twoZ (pr1 c) (pr2 c)) (twoZ (pr1 d) (pr2 d))).1 < 0 then (0, 6)
      else ((Clk.day (100 * twoZ (pr1 a) (pr2 a) + twoZ (pr1 b) (pr2 b)) (twoZ (pr1 c) (pr2 c)) (twoZ (pr1 d) (pr2 d))).1 * 86400 + (3600 * twoZ (pr1 e) (pr2 e) + 60 * twoZ (pr1 f) (pr2 f) + twoZ (pr1 g) (pr2 g)), 0) := by
    intro a b c d e f g
    unfold readZ
    rw [if_neg (by simp [timeL])]
    rfl
  rw [key, e1, e2, e3, e4, e5, e6, e7, hyy, hd, if_neg (by omega), if_neg (by simp; omega)]
  refine Prod.ext ?_ rfl
  show t / 86400 * 86400 + (3600 * (t % 86400 / 3600) + 60 * (t % 86400 / 60 % 60) + t % 86400 % 60) = t
  omega
theorem show_time (t : Int) (h0 : 0 ≤ t) (h2 : t < 18446744073709551616) : clock_Show.f t = some (if 253402300799 < t then (⟨#[]⟩, 6) else (B (showT t), 0)) := by
  unfold clock_Show.f
  by_cases h1 : 253402300799 < t
  · rw [if_pos h1, if_pos h1]
  · rw [if_neg h1, if_neg h1]
    obtain ⟨hd, y1, y2, m1, m2, d1, d2⟩ := civ_ok t h0 (by omega)
    have ht : Int.tdiv t 86400 = t / 86400 := Int.tdiv_eq_ediv_of_nonneg h0
    have hm : Int.tmod t 86400 = t % 86400 := Int.tmod_eq_emod_of_nonneg h0
    have hw1 : wrap64 (IntKind.u64.wrap (t / 86400)) = t / 86400 := by
      have : IntKind.u64.wrap (t / 86400) = t / 86400 := IntWalk.u64_in _ (by omega)
      rw [this]; unfold wrap64; omega
    have hw2 : wrap64 (t % 86400) = t % 86400 := by unfold wrap64; omega
    rw [ht, hm, hw1, hw2]
    unfold clock_Civil.f
    rw [Option.bind_some]
    unfold showT
    generalize (Clk.civ (t / 86400)).1 = y at *
    generalize (Clk.civ (t / 86400)).2.1 = m at *
    generalize (Clk.civ (t / 86400)).2.2 = d at *
    rw [Int.tdiv_eq_ediv_of_nonneg (a := y) (by omega), Int.tmod_eq_emod_of_nonneg (a := y) (by omega), Int.tdiv_eq_ediv_of_nonneg (a := t % 86400) (b := 3600) (by omega), Int.tdiv_eq_ediv_of_nonneg (a := t % 86400) (b := 60) (by omega),
      Int.tmod_eq_emod_of_nonneg (a := t % 86400) (by omega)]
    rw [show wrap64 (y / 100) = y / 100 by unfold wrap64; omega, show wrap64 (t % 86400 / 3600) = t % 86400 / 3600 by unfold wrap64; omega, show wrap64 (t % 86400 / 60) = t % 86400 / 60 by unfold wrap64; omega, Int.tmod_eq_emod_of_nonneg (a := t % 86400 / 60) (by omega)]
    have hp : ∀ l : List Int, l.length ≤ 100 → (∀ x ∈ l, 0 ≤ x ∧ x < 100) → clock_pairs.f l = some (B (l.flatMap prTwo)) := fun l a b => if_pos ⟨a, b⟩
    rw [hp [y / 100, y % 100, m, d] (by simp) (by simp; omega), Option.bind_some, hp [t % 86400 / 3600, t % 86400 / 60 % 60, t % 86400 % 60] (by simp) (by simp; omega)]
    rw [if_pos (by rw [szB]; simp [prTwo]), Option.bind_some, show (⟨#[84]⟩ : ByteArray) = B [84] from rfl, appB, szB, szB, if_pos (by simp [prTwo]), appB, szB, if_pos (by simp [prTwo]), show (⟨#[90]⟩ : ByteArray) = B [90] from rfl, appB]
    rfl
theorem same_l0 (a b : List UInt8) (hab : a.length = b.length) (hl : a.length ≤ 100000000) : ∀ (d k i : Nat) (acc : Nat), d = a.length - i → i ≤ a.length → d < k → acc < 256 →
    digest_Same.l0 k (b.map fun x => (x.toNat : Int)) (acc : Int) (a.map fun x => (x.toNat : Int)) (a.length : Int) (i : Int) = some (decide (acc = 0 ∧ a.drop i = b.drop i))
  | d, k, i, acc, hd, hi, hk, hacc => by
    obtain ⟨k, rfl⟩ : ∃ m, k = m + 1 := ⟨k - 1, by omega⟩
    rw [digest_Same.l0]
    cases d with
    | zero =>
      rw [if_neg (by omega), List.drop_eq_nil_of_le (by omega), List.drop_eq_nil_of_le (by omega)]
      congr 1
      rw [Bool.eq_iff_iff]
      simp
    | succ d =>
      have h1 : i < a.length := by omega
      have h2 : i < b.length := by omega
      have ra : rd (a.map fun x => (x.toNat : Int)) (i : Int) = (a[i].toNat : Int) := by unfold rd; rw [Int.toNat_natCast, List.getD_eq_getElem?_getD, List.getElem?_map, List.getElem?_eq_getElem h1]; rfl
      have rb : rd (b.map fun x => (x.toNat : Int)) (i : Int) = (b[i].toNat : Int) := by unfold rd; rw [Int.toNat_natCast, List.getD_eq_getElem?_getD, List.getElem?_map, List.getElem?_eq_getElem h2]; rfl
      have la : a[i].toNat < 256 := a[i].toNat_lt
      have lb : b[i].toNat < 256 := b[i].toNat_lt
      have lx : a[i].toNat ^^^ b[i].toNat < 256 := Nat.xor_lt_two_pow (n := 8) la lb
      rw [if_pos (by omega), if_pos (by omega), if_pos (by rw [List.length_map]; omega), if_pos (by rw [List.length_map]; omega), ra, rb,
        Sha.xor_nat (k := .u8) rfl la lb, Sha.or_nat (k := .u8) rfl hacc lx, w1 i (by omega),
        same_l0 a b hab hl d k (i + 1) _ (by omega) (by omega) (by omega) (Nat.or_lt_two_pow (n := 8) hacc lx), List.drop_eq_getElem_cons h1, List.drop_eq_getElem_cons h2]
      congr 1
      rw [Bool.eq_iff_iff]
      simp only [decide_eq_true_eq, Nat.or_eq_zero_iff, List.cons.injEq]
      have hx : (a[i].toNat ^^^ b[i].toNat = 0) ↔ a[i] = b[i] := by
        rw [← UInt8.toNat_inj]
        constructor
        · intro h
          have h9 := congrArg (· ^^^ b[i].toNat) h
          simpa [Nat.xor_assoc] using h9
        · intro h
          rw [h, Nat.xor_self]
      rw [hx, and_assoc]
theorem same_f (a b : List UInt8) (hl : a.length ≤ 100000000) (k : Nat) (hk : a.length < k) : digest_Same.f k (bytesOf (B a)) (bytesOf (B b)) = some (decide (a = b)) := by
  unfold digest_Same.f
  rw [bytesOf_length, bytesOf_length, szB, szB]
  by_cases h : a.length = b.length
  · rw [if_pos (by omega)]
    have := same_l0 a b h hl a.length k 0 0 rfl (Nat.zero_le _) hk (by decide)
    rw [List.drop_zero, List.drop_zero] at this
    simp only [true_and] at this
    exact this
  · rw [if_neg (by omega), decide_eq_false (fun e => h (congrArg List.length e))]
theorem index_l0 (L : List (List UInt8)) (n : List UInt8) (hl : L.length ≤ 1000000) : ∀ (d k i : Nat), d = L.length - i → i ≤ L.length → d < k →
    ∃ v : Int, slices_Index_string_string.l0 k (L.map B) (B n) (L.length : Int) (i : Int) = some v ∧ (decide (v ≥ 0) = (L.drop i).contains n)
  | d, k, i, hd, hi, hk => by
    obtain ⟨k, rfl⟩ : ∃ m, k = m + 1 := ⟨k - 1, by omega⟩
    rw [slices_Index_string_string.l0]
    cases d with
    | zero =>
      rw [if_neg (by omega), List.drop_eq_nil_of_le (by omega)]
      exact ⟨-1, rfl, rfl⟩
    | succ d =>
      have h1 : i < L.length := by omega
      rw [if_pos (by omega), if_pos (by omega), if_pos (by rw [List.length_map]; omega), rdB L i h1, toL, toL, List.drop_eq_getElem_cons h1, w1 i (by omega)]
      by_cases e : n = L[i]
      · rw [if_pos e]
        refine ⟨(i : Int), rfl, ?_⟩
        rw [decide_eq_true (by omega), List.contains_cons, beq_iff_eq.2 e]
        rfl
      · rw [if_neg e]
        obtain ⟨v, h3, h4⟩ := index_l0 L n hl d k (i + 1) (by omega) (by omega) (by omega)
        refine ⟨v, h3, ?_⟩
        rw [h4, List.contains_cons, beq_eq_false_iff_ne.2 e]
        rfl
theorem contains_f (L : List (List UInt8)) (n : List UInt8) (hl : L.length ≤ 1000000) (k : Nat) (hk : L.length < k) : slices_Contains_string_string.f k (L.map B) (B n) = some (L.contains n) := by
  obtain ⟨v, h3, h4⟩ := index_l0 L n hl L.length k 0 rfl (Nat.zero_le _) hk
  unfold slices_Contains_string_string.f slices_Index_string_string.f
  rw [List.length_map]
  rw [show ((0 : Nat) : Int) = 0 from rfl] at h3
  rw [h3, Option.bind_some, h4, List.drop_zero]
def sigL (sec : List UInt8) (t : Int) (c : List UInt8) : List UInt8 := hexZ (chainN (keyN sec ((showT t).take 8)) [Uri.jn [10] [bl algB, showT t, (showT t).take 8 ++ scopeL, hexZ (shaOf (nb c))]])
theorem sigL_len (sec : List UInt8) (t : Int) (c : List UInt8) : (sigL sec t c).length = 64 := by unfold sigL; rw [hexZ_len, chainN_len]
def signZ (sec m p q : List UInt8) (hs : List S55) (body : List Int) (ns : List (List UInt8)) (t : Int) : ByteArray × Int :=
  if 253402300799 < t then (⟨#[]⟩, 6)
  else if (canZ m p q hs body ns).2 = 0 then (B (sigL sec t (bl (canZ m p q hs body ns).1)), 0) else (⟨#[]⟩, (canZ m p q hs body ns).2)
theorem canZ_len (m p q : List UInt8) (hs : List S55) (body : List Int) (ns : List (List UInt8)) (hS : Small m p q hs body) : (canZ m p q hs body ns).1.size ≤ 9000000 := by
  unfold canZ
  split
  · rename_i hN
    have hb := okNs_bounds hN
    split
    · split
      · rw [szB]
        unfold textL
        have h1 := text_sum m p q hs body ns hS hb.2.1 (fun x hx => okN_len (hb.2.2 x hx))
        have h2 := Uri.jn_len [10] ([m, Uri.enc true (decR p).1, Uri.canon (prs (resQ q).1)] ++ ns.map (lineL hs) ++ [[], Uri.jn [59] ns, bodyS body])
        have h3 : ([m, Uri.enc true (decR p).1, Uri.canon (prs (resQ q).1)] ++ ns.map (lineL hs) ++ [[], Uri.jn [59] ns, bodyS body]).length ≤ 30 := by simp; omega
        simp only [List.length_singleton] at h2
        omega
      · exact Nat.zero_le _
    · exact Nat.zero_le _
  · exact Nat.zero_le _
theorem sign_f (sec m p q : List UInt8) (hs : List S55) (body : List Int) (ns : List (List UInt8)) (t : Int) (hS : Small m p q hs body) (hsec : sec.length ≤ 1000000) (hn : ns.length ≤ 1000) (hnl : ∀ x ∈ ns, x.length ≤ 1000000) (h0 : 0 ≤ t) (h2 : t < 18446744073709551616) (k : Nat) (hk : 2000 < k) :
    sigv4_Sign.f k (B sec) (B m) (B p) (B q) hs body (ns.map B) t = some (signZ sec m p q hs body ns t) := by
  unfold sigv4_Sign.f signA signZ
  rw [show_time t h0 h2, Option.bind_some]
  by_cases h1 : 253402300799 < t
  · rw [if_pos h1, if_pos h1, if_neg (by decide)]
  · rw [if_neg h1, if_neg h1, if_pos rfl, can_f m p q hs body ns hS hn hnl k hk, Option.bind_some]
    have hc := canZ_len m p q hs body ns hS
    by_cases hc2 : (canZ m p q hs body ns).2 = 0
    · have he : (B (showT t)).extract 0 8 = B ((showT t).take 8) := by rw [extB]; rfl
      rw [if_pos hc2, if_pos hc2, if_pos ⟨by rw [szB]; exact hsec, by rw [szB, showT_len]; decide, by rw [szB, showT_len]; decide, by omega⟩, he, scope_f _ (by rw [List.length_take, showT_len]; decide), Option.bind_some, if_pos (by rw [szB, List.length_append, List.length_take, showT_len]; decide)]
      rfl
    · rw [if_neg hc2, if_neg hc2]
end Go.Proofs.YtghcadbmjglidaaGreatDoor.Sp
end
section
set_option linter.unusedVariables false
namespace Go.Proofs.YtghcadbmjglidaaGreatDoor.Sp
open Go.RowKit Go.Proofs.YtghcadbmjglidaaGreatDoor.PSg Go.Proofs.YtghcadbmjglidaaGreatDoorW.PrintWords Go.Proofs.YtghcadbmjglidaaGreatDoorW.PrintLast
abbrev Res := ByteArray × ByteArray × ByteArray × List S55 × List Int × Int
def attN (e : Int) : Res := (⟨#[]⟩, ⟨#[]⟩, ⟨#[]⟩, [], [], e)
def sortL (L : List (List UInt8)) : List (List UInt8) := L.mergeSort fun x y => decide (x ≤ y)
def nmsL (hs : List S55) : List (List UInt8) := hs.map fun x => bl x.f0
def dateH (t : Int) : S55 := ⟨xdateB, B (showT t)⟩
def attT (m p q : List UInt8) (hl : List S55) (body : List Int) (who sec : List UInt8) (t : Int) : Res :=
  if (signZ sec m p q hl body (sortL (nmsL hl)) t).2 = 0 then
    if rightB who ((showT t).take 8) (sortL (nmsL hl)) (bl (signZ sec m p q hl body (sortL (nmsL hl)) t).1) = true then
      (B m, B p, B q, hl ++ [⟨authB, B (showB who ((showT t).take 8) (sortL (nmsL hl)) (bl (signZ sec m p q hl body (sortL (nmsL hl)) t).1))⟩], body, 0)
    else attN 20
  else attN (signZ sec m p q hl body (sortL (nmsL hl)) t).2
def attZ (m p q : List UInt8) (hs : List S55) (body : List Int) (who sec : List UInt8) (t : Int) : Res :=
  if 253402300799 < t then attN 6
  else if (findH hs authB).2 = true ∨ (findH hs xdateB).2 = true ∨ 22 < hs.length then attN 11
  else attT m p q (hs ++ [dateH t]) body who sec t
theorem sortT_B (L : List (List UInt8)) : sortT (L.map B) = (sortL L).map B := by
  unfold sortT sortL
  rw [jn_map]
  rfl
theorem sortL_perm (L : List (List UInt8)) : (sortL L).Perm L := List.mergeSort_perm _ _
theorem sortL_len (L : List (List UInt8)) : (sortL L).length = L.length := (sortL_perm L).length_eq
theorem clone_b (body : List Int) (h : body.length ≤ 1000000) : slices_Clone_byte_byte.f body = some body := if_pos (by omega)
theorem signZ_len (sec m p q : List UInt8) (hs : List S55) (body : List Int) (ns : List (List UInt8)) (t : Int) : (bl (signZ sec m p q hs body ns t).1).length ≤ 64 := by
  unfold signZ
  split
  · exact Nat.zero_le _
  · split
    · rw [blB, sigL_len]; exact Nat.le_refl _
    · exact Nat.zero_le _
theorem att_l0 (m p q : List UInt8) (hl : List S55) (body : List Int) (who sec : List UInt8) (t : Int) (hS : Small m p q hl body) (hn : hl.length ≤ 23) (hnl : ∀ x ∈ hl, (bl x.f0).length ≤ 1000000) (hw : who.length ≤ 1000000) (hsec : sec.length ≤ 1000000) (h0 : 0 ≤ t) (h2 : t < 18446744073709551616) (M : Nat) (hM : 2002 ≤ M) : ∀ (d k i : Nat), d = hl.length - i → i ≤ hl.length → d + M < k →
    sigv4_Attach.l0 k (B sec) t hl (hl.length : Int) (i : Int) (B m) (B p) (B q) hl body (B who) (B ((showT t).take 8)) (((nmsL hl).take i).map B) (⟨#[]⟩ : ByteArray) = some (attT m p q hl body who sec t)
  | d, k, i, hd, hi, hk => by
    obtain ⟨k, rfl⟩ : ∃ m, k = m + 1 := ⟨k - 1, by omega⟩
    have hnm : (nmsL hl).length = hl.length := List.length_map ..
    rw [sigv4_Attach.l0]
    cases d with
    | zero =>
      have hie : i = (nmsL hl).length := by omega
      rw [if_neg (by omega), hie, List.take_length]
      rw [show slices_Sort_string_string.f ((nmsL hl).map B) = some ((sortL (nmsL hl)).map B) from by
        unfold slices_Sort_string_string.f
        rw [if_pos (by rw [List.length_map]; omega), sortT_B], Option.bind_some]
      have hsl : (sortL (nmsL hl)).length = hl.length := by rw [sortL_len, hnm]
      have hsm : ∀ x ∈ sortL (nmsL hl), x.length ≤ 1000000 := fun x hx => by
        obtain ⟨y, hy, rfl⟩ := List.mem_map.1 ((sortL_perm _).mem_iff.1 hx)
        exact hnl y hy
      rw [sign_f sec m p q hl body _ t hS hsec (by omega) hsm h0 h2 k (by omega), Option.bind_some]
      unfold attT
      have hg := signZ_len sec m p q hl body (sortL (nmsL hl)) t
      generalize signZ sec m p q hl body (sortL (nmsL hl)) t = g at *
      by_cases hg0 : g.2 = 0
      · rw [if_pos hg0, if_pos hg0]
        have hrf := right_f who ((showT t).take 8) (bl g.1) (sortL (nmsL hl)) (by omega) (by rw [List.length_take, showT_len]; decide) (by omega) (fun x hx => Nat.le_trans (hsm x hx) (by decide)) (by omega) k (by omega)
        rw [B_bl] at hrf
        rw [hrf, Option.bind_some]
        cases hr : rightB who ((showT t).take 8) (sortL (nmsL hl)) (bl g.1) with
        | false => rw [if_neg (by simp), if_neg (by simp)]; rfl
        | true =>
          rw [if_pos rfl, if_pos rfl]
          have hsum : ((sortL (nmsL hl)).map List.length).sum ≤ 100000000 := Nat.le_trans (sum_le _ 1000000 _ hsm) (by rw [hsl]; omega)
          have hsf := show_f who ((showT t).take 8) (bl g.1) (sortL (nmsL hl)) (by omega) (by rw [List.length_take, showT_len]; decide) (by omega) hsum (by omega)
          rw [B_bl] at hsf
          rw [hsf, Option.bind_some, if_pos (by omega), clone_b body hS.bl, Option.bind_some]
          rfl
      · rw [if_neg hg0, if_neg hg0]
        rfl
    | succ d =>
      have hlt : i < hl.length := by omega
      have hlt2 : i < (nmsL hl).length := by omega
      have hr : (rd_T55 hl (i : Int)).f0 = B (nmsL hl)[i] := by
        have e2 : (nmsL hl)[i] = bl hl[i].f0 := by simp [nmsL]
        rw [e2, B_bl]
        unfold rd_T55
        rw [Int.toNat_natCast, List.getD_eq_getElem?_getD, List.getElem?_eq_getElem hlt]
        rfl
      rw [if_pos (by omega), if_pos (by omega), if_pos (by omega), if_pos (by rw [List.length_map, List.length_take]; omega), w1 i (by omega), hr]
      have hstep : ((nmsL hl).take i).map B ++ [B (nmsL hl)[i]] = ((nmsL hl).take (i + 1)).map B := by
        rw [List.take_succ_eq_append_getElem hlt2, List.map_append]; rfl
      rw [hstep]
      exact att_l0 m p q hl body who sec t hS hn hnl hw hsec h0 h2 M hM d k (i + 1) (by omega) (by omega) (by omega)
theorem small_snoc {m p q : List UInt8} {hs : List S55} {body : List Int} (h : Small m p q hs body) (x : S55) (hx : (bl x.f1).length ≤ 40000) (hl : hs.length ≤ 900) : Small m p q (hs ++ [x]) body :=
  ⟨h.m, h.p, h.q, by simp; omega, fun y hy => by
    rcases List.mem_append.1 hy with hy | hy
    · exact h.hv y hy
    · rw [List.mem_singleton] at hy; subst hy; exact hx, h.bl, h.bb⟩
theorem attach_f (m p q : List UInt8) (hs : List S55) (body : List Int) (who sec : List UInt8) (t : Int) (hS : Small m p q hs body) (hnl : ∀ x ∈ hs, (bl x.f0).length ≤ 1000000) (hw : who.length ≤ 1000000) (hsec : sec.length ≤ 1000000) (h0 : 0 ≤ t) (h2 : t < 18446744073709551616) (k : Nat) (hk : 2100 < k) :
    sigv4_Attach.f k (B m) (B p) (B q) hs body (B who) (B sec) t = some (attZ m p q hs body who sec t) := by
  have hget : ∀ n, request_Get.f (B m) (B p) (B q) hs body n = some (findH hs n) := fun n => if_pos (by have := hS.hl; omega)
  unfold sigv4_Attach.f attZ
  rw [show_time t h0 h2, Option.bind_some]
  by_cases h1 : 253402300799 < t
  · rw [if_pos h1, if_pos h1, if_neg (by decide)]; rfl
  · rw [if_neg h1, if_neg h1, if_pos rfl]
    rw [show (⟨#[97, 117, 116, 104, 111, 114, 105, 122, 97, 116, 105, 111, 110]⟩ : ByteArray) = authB from rfl, show (⟨#[120, 45, 97, 109, 122, 45, 100, 97, 116, 101]⟩ : ByteArray) = xdateB from rfl]
    rw [hget, Option.bind_some, hget, Option.bind_some]
    obtain ⟨k, rfl⟩ : ∃ m, k = m + 1 := ⟨k - 1, by omega⟩
    cases hx : (findH hs authB).2 with
    | true => rw [if_pos rfl, if_pos (.inl rfl), sigv4_Attach.j0, if_pos rfl]; rfl
    | false =>
      rw [if_neg (by simp)]
      cases hy : (findH hs xdateB).2 with
      | true => rw [if_pos rfl, if_pos (.inr (.inl rfl)), sigv4_Attach.j0, if_pos rfl]; rfl
      | false =>
        rw [if_neg (by simp), show wrap64 ((hs.length : Int) + 2) = (hs.length : Int) + 2 by have := hS.hl; unfold wrap64; omega, sigv4_Attach.j0]
        by_cases hn : 22 < hs.length
        · rw [if_pos (by simp; omega), if_pos (.inr (.inr hn))]; rfl
        · rw [if_neg (by simp; omega), if_neg (by simp; omega)]
          rw [show request_Header_31.f hs = some hs from if_pos (by have := hS.hl; omega), Option.bind_some, if_pos (by omega), Option.bind_some, if_pos (by decide), if_pos (by rw [szB, showT_len]; decide)]
          have he : (B (showT t)).extract 0 8 = B ((showT t).take 8) := by rw [extB]; rfl
          rw [he]
          have hS2 := small_snoc hS (dateH t) (by show (bl (B (showT t))).length ≤ _; rw [blB, showT_len]; decide) (by omega)
          refine att_l0 m p q (hs ++ [dateH t]) body who sec t hS2 (by simp; omega) (fun x hx => ?_) hw hsec h0 h2 2002 (Nat.le_refl _) (hs ++ [dateH t]).length k 0 rfl (Nat.zero_le _) (by simp; omega)
          rcases List.mem_append.1 hx with hx | hx
          · exact hnl x hx
          · rw [List.mem_singleton] at hx; subst hx; show (bl xdateB).length ≤ 1000000; decide
def nearZ (a b : Int) : Bool := decide ((IntKind.u64.wrap ((mx a b) - (mn a b))) ≤ 900)
def verZ (m p q : List UInt8) (hs : List S55) (body : List Int) (sec : List UInt8) (now : Int) : Int :=
  if orZ [(rdS (bl (findH hs authB).1)).2.2.2.2, (readZ (bl (findH hs xdateB).1)).2] = 0 then
    if (bl (findH hs xdateB).1).take 8 = bl (rdS (bl (findH hs authB).1)).2.1 then
      if ((rdS (bl (findH hs authB).1)).2.2.1.map bl).contains (bl xdateB) = true then
        if nearZ (readZ (bl (findH hs xdateB).1)).1 now = true then
          if (signZ sec m p q hs body ((rdS (bl (findH hs authB).1)).2.2.1.map bl) (readZ (bl (findH hs xdateB).1)).1).2 = 0 then
            if bl (signZ sec m p q hs body ((rdS (bl (findH hs authB).1)).2.2.1.map bl) (readZ (bl (findH hs xdateB).1)).1).1 = bl (rdS (bl (findH hs authB).1)).2.2.2.1 then 0 else 20
          else (signZ sec m p q hs body ((rdS (bl (findH hs authB).1)).2.2.1.map bl) (readZ (bl (findH hs xdateB).1)).1).2
        else 21
      else 20
    else 20
  else 20
theorem readZ_range (l : List UInt8) : 0 ≤ (readZ l).1 ∧ (readZ l).1 < 18446744073709551616 ∧ ((readZ l).2 = 0 → l.length = 16) := by
  unfold readZ
  split
  · simp
  · rename_i h1
    have h16 : l.length = 16 := by
      by_cases h : l.length = 16
      · exact h
      · exact absurd (.inl h) h1
    split
    · simp
    · split
      · simp
      · rename_i h2 h3
        have hd := Clk.day_range (100 * twoZ (l.getD 0 0) (l.getD 1 0) + twoZ (l.getD 2 0) (l.getD 3 0)) (twoZ (l.getD 4 0) (l.getD 5 0)) (twoZ (l.getD 6 0) (l.getD 7 0))
        have a := twoZ_le (l.getD 9 0) (l.getD 10 0)
        have b := twoZ_le (l.getD 11 0) (l.getD 12 0)
        have c := twoZ_le (l.getD 13 0) (l.getD 14 0)
        generalize Clk.day (100 * twoZ (l.getD 0 0) (l.getD 1 0) + twoZ (l.getD 2 0) (l.getD 3 0)) (twoZ (l.getD 4 0) (l.getD 5 0)) (twoZ (l.getD 6 0) (l.getD 7 0)) = dd at *
        refine ⟨?_, ?_, fun _ => h16⟩
        · show 0 ≤ dd.1 * 86400 + _; omega
        · show dd.1 * 86400 + _ < _; omega
theorem rdS_names (s : List UInt8) (hs : s.length ≤ 900000) : ∃ L : List (List UInt8), (rdS s).2.2.1 = L.map B ∧ L.length ≤ 24 ∧ (∀ x ∈ L, x.length ≤ 64) ∧ (bl (rdS s).2.2.2.1).length ≤ 64 := by
  unfold rdS
  split
  · rename_i h
    have h1 := h.1
    unfold rightB at h1
    simp only [Bool.and_eq_true] at h1
    have hf := okNs_facts h1.1.2
    refine ⟨_, rfl, hf.2.1, hf.2.2.1, ?_⟩
    have h2 := h1.2
    unfold okS at h2
    simp only [Bool.and_eq_true, decide_eq_true_eq] at h2
    rw [show bl (B (cA4 s).2.1) = (cA4 s).2.1 from rfl, h2.2]
    exact Nat.le_refl _
  · exact ⟨[], rfl, by simp, fun x hx => absurd hx (List.not_mem_nil), by simp [bl]⟩
theorem verify_f (m p q : List UInt8) (hs : List S55) (body : List Int) (sec : List UInt8) (now : Int) (hS : Small m p q hs body) (hsec : sec.length ≤ 1000000) (k : Nat) (hk : 1000000 < k) :
    sigv4_Verify.f k (B m) (B p) (B q) hs body (B sec) now = some (verZ m p q hs body sec now) := by
  have hget : ∀ n, request_Get.f (B m) (B p) (B q) hs body n = some (findH hs n) := fun n => if_pos (by have := hS.hl; omega)
  have hv1 := findH_len hS.hv authB
  have hv2 := findH_len hS.hv xdateB
  unfold sigv4_Verify.f verA verZ
  rw [hget, Option.bind_some]
  rw [show sigv4_ReadAuth.f k (findH hs authB).1 = some (rdS (bl (findH hs authB).1)) from by
    have := read_f (bl (findH hs authB).1) (by omega) k (by omega)
    rwa [B_bl] at this, Option.bind_some]
  rw [hget, Option.bind_some]
  rw [show clock_Read.f (findH hs xdateB).1 = some (readZ (bl (findH hs xdateB).1)) from rfl, Option.bind_some]
  have hz := readZ_range (bl (findH hs xdateB).1)
  obtain ⟨L, hL, hL1, hL2, hL3⟩ := rdS_names (bl (findH hs authB).1) (by omega)
  by_cases h1 : orZ [(rdS (bl (findH hs authB).1)).2.2.2.2, (readZ (bl (findH hs xdateB).1)).2] = 0
  · rw [if_pos h1, if_pos h1]
    have hz2 : (readZ (bl (findH hs xdateB).1)).2 = 0 := by
      unfold orZ at h1
      split at h1
      · unfold orZ at h1
        split at h1
        · assumption
        · rename_i h9; exact absurd h1 h9
      · rename_i h9; exact absurd h1 h9
    have h16 := hz.2.2 hz2
    have hsz : (findH hs xdateB).1.size = 16 := by rw [Lib.size_eq]; exact h16
    rw [if_pos (by omega)]
    have he : ((findH hs xdateB).1.extract 0 8).toList = (bl (findH hs xdateB).1).take 8 := by
      have := extB (bl (findH hs xdateB).1) 0 8
      rw [B_bl] at this
      rw [this, toL, List.drop_zero]
    have hbt : (rdS (bl (findH hs authB).1)).2.1.toList = bl (rdS (bl (findH hs authB).1)).2.1 := by rw [ByteArray.toList_eq]; rfl
    rw [he, hbt]
    by_cases h2 : (bl (findH hs xdateB).1).take 8 = bl (rdS (bl (findH hs authB).1)).2.1
    · rw [if_pos h2, if_pos h2, hL, jn_map]
      rw [show slices_Contains_string_string.f k (L.map B) xdateB = some (L.contains (bl xdateB)) from contains_f L (bl xdateB) (by omega) k (by omega), Option.bind_some]
      cases h3 : L.contains (bl xdateB) with
      | false => rw [if_neg (by simp), if_neg (by simp)]
      | true =>
        rw [if_pos rfl, if_pos rfl]
        rw [show clock_Near.f (readZ (bl (findH hs xdateB).1)).1 now 900 = some (nearZ (readZ (bl (findH hs xdateB).1)).1 now) from rfl, Option.bind_some]
        cases h4 : nearZ (readZ (bl (findH hs xdateB).1)).1 now with
        | false => rw [if_neg (by simp), if_neg (by simp)]
        | true =>
          rw [if_pos rfl, if_pos rfl, sign_f sec m p q hs body L _ hS hsec (by omega) (fun x hx => Nat.le_trans (hL2 x hx) (by decide)) hz.1 hz.2.1 k (by omega), Option.bind_some]
          have hg := signZ_len sec m p q hs body L (readZ (bl (findH hs xdateB).1)).1
          generalize signZ sec m p q hs body L (readZ (bl (findH hs xdateB).1)).1 = g at *
          by_cases h5 : g.2 = 0
          · rw [if_pos h5, if_pos h5, if_pos ⟨by rw [Lib.size_eq]; exact Nat.le_trans hg (by decide), by rw [Lib.size_eq]; exact Nat.le_trans hL3 (by decide)⟩]
            have hsame := same_f (bl g.1) (bl (rdS (bl (findH hs authB).1)).2.2.2.1) (Nat.le_trans hg (by decide)) k (by omega)
            rw [B_bl, B_bl] at hsame
            rw [hsame, Option.bind_some]
            by_cases h6 : bl g.1 = bl (rdS (bl (findH hs authB).1)).2.2.2.1
            · rw [decide_eq_true h6, if_pos rfl, if_pos h6]
            · rw [decide_eq_false h6, if_neg (by simp), if_neg h6]
          · rw [if_neg h5, if_neg h5]
    · rw [if_neg h2, if_neg h2]
  · rw [if_neg h1, if_neg h1]
end Go.Proofs.YtghcadbmjglidaaGreatDoor.Sp
end
section
set_option linter.unusedVariables false
namespace Go.Proofs.YtghcadbmjglidaaGreatDoor.Sp
open Go.RowKit Go.Proofs.YtghcadbmjglidaaGreatDoor.PSg Go.Proofs.YtghcadbmjglidaaGreatDoorW.PrintWords Go.Proofs.YtghcadbmjglidaaGreatDoorW.PrintLast
theorem toL' (b : ByteArray) : b.toList = bl b := by rw [ByteArray.toList_eq]; rfl
theorem findH_none {hs : List S55} {n : ByteArray} (h : (findH hs n).2 = false) : hs.find? (fun x => x.f0.toList == n.toList) = none := by
  unfold findH at h
  cases hf : hs.find? (fun x => x.f0.toList == n.toList) with
  | none => rfl
  | some y => rw [hf] at h; cases h
theorem findH_left {hs : List S55} {n : ByteArray} (x : S55) (h : (findH hs n).2 = true) : findH (hs ++ [x]) n = findH hs n := by
  unfold findH at h ⊢
  cases hf : hs.find? (fun x => x.f0.toList == n.toList) with
  | none => rw [hf] at h; cases h
  | some y => rw [List.find?_append, hf]; rfl
theorem findH_right {hs : List S55} {n : ByteArray} (x : S55) (h : (findH hs n).2 = false) (hx : x.f0.toList = n.toList) : findH (hs ++ [x]) n = (x.f1, true) := by
  have h1 := findH_none h
  unfold findH
  rw [List.find?_append, h1]
  simp [hx]
theorem findH_skip {hs : List S55} {n : ByteArray} (x : S55) (h : (findH hs n).2 = false) (hx : x.f0.toList ≠ n.toList) : (findH (hs ++ [x]) n).2 = false := by
  have h1 := findH_none h
  unfold findH
  rw [List.find?_append, h1]
  simp [hx]
theorem findH_mem {hs : List S55} {n : List UInt8} (h : n ∈ nmsL hs) : (findH hs (B n)).2 = true := by
  obtain ⟨x, hx, rfl⟩ := List.mem_map.1 h
  unfold findH
  cases hf : hs.find? (fun y => y.f0.toList == (B (bl x.f0)).toList) with
  | none =>
    have := List.find?_eq_none.1 hf x hx
    rw [toL, toL'] at this
    exact absurd (beq_self_eq_true _) this
  | some y => rfl
theorem lineL_left {hl : List S55} (x : S55) {n : List UInt8} (h : n ∈ nmsL hl) : lineL (hl ++ [x]) n = lineL hl n := by
  unfold lineL
  rw [findH_left x (findH_mem h)]
theorem canZ_left (m p q : List UInt8) (hl : List S55) (x : S55) (body : List Int) (ns : List (List UInt8)) (h : ∀ n ∈ ns, n ∈ nmsL hl) : canZ m p q (hl ++ [x]) body ns = canZ m p q hl body ns := by
  unfold canZ textL
  have h1 : ns.map (lineL (hl ++ [x])) = ns.map (lineL hl) := List.map_congr_left fun n hn => lineL_left x (h n hn)
  have h2 : ns.all (fun n => (findH (hl ++ [x]) (B n)).2) = true := List.all_eq_true.2 fun n hn => by rw [findH_left x (findH_mem (h n hn))]; exact findH_mem (h n hn)
  have h3 : ns.all (fun n => (findH hl (B n)).2) = true := List.all_eq_true.2 fun n hn => findH_mem (h n hn)
  rw [h1, h2, h3]
theorem authX : authB.toList ≠ xdateB.toList := by
  rw [toL', toL']
  decide
theorem rdS_show {a d s : List UInt8} {L : List (List UInt8)} (h : rightB a d L s = true) : rdS (showB a d L s) = (B a, B d, L.map B, B s, 0) := by
  obtain ⟨-, e2, e3, e4, e5⟩ := parse h
  unfold rdS
  have a2 : (cA2 (showB a d L s)).1 = a := by rw [e2]
  have a3 : (cA3 (showB a d L s)).1 = d := by rw [e3]
  have a4 : (cA4 (showB a d L s)).1 = Uri.jn [59] L := by rw [e4]
  have a5 : (cA4 (showB a d L s)).2.1 = s := by rw [e4]
  rw [a2, a3, a4, a5, e5, if_pos ⟨h, rfl⟩]
structure Att (m p q : List UInt8) (hs : List S55) (body : List Int) (who sec : List UInt8) (t : Int) (r : Res) : Prop where
  t1 : t ≤ 253402300799
  au : (findH hs authB).2 = false
  xd : (findH hs xdateB).2 = false
  len : hs.length ≤ 22
  sg : (signZ sec m p q (hs ++ [dateH t]) body (sortL (nmsL (hs ++ [dateH t]))) t).2 = 0
  rt : rightB who ((showT t).take 8) (sortL (nmsL (hs ++ [dateH t]))) (bl (signZ sec m p q (hs ++ [dateH t]) body (sortL (nmsL (hs ++ [dateH t]))) t).1) = true
  eq : r = (B m, B p, B q, (hs ++ [dateH t]) ++ [⟨authB, B (showB who ((showT t).take 8) (sortL (nmsL (hs ++ [dateH t]))) (bl (signZ sec m p q (hs ++ [dateH t]) body (sortL (nmsL (hs ++ [dateH t]))) t).1))⟩], body, 0)
theorem att_ok {m p q : List UInt8} {hs : List S55} {body : List Int} {who sec : List UInt8} {t : Int} (h : (attZ m p q hs body who sec t).2.2.2.2.2 = 0) : Att m p q hs body who sec t (attZ m p q hs body who sec t) := by
  unfold attZ at h ⊢
  split at h
  · cases h
  · rename_i h1
    rw [if_neg h1]
    split at h
    · cases h
    · rename_i h2
      rw [if_neg h2]
      unfold attT at h ⊢
      split at h
      · rename_i h3
        rw [if_pos h3]
        split at h
        · rename_i h4
          rw [if_pos h4]
          refine ⟨by omega, ?_, ?_, ?_, h3, h4, rfl⟩
          · cases hx : (findH hs authB).2 with
            | false => rfl
            | true => exact absurd (.inl hx) h2
          · cases hx : (findH hs xdateB).2 with
            | false => rfl
            | true => exact absurd (.inr (.inl hx)) h2
          · by_cases h9 : hs.length ≤ 22
            · exact h9
            · exact absurd (.inr (.inr (by omega))) h2
        · cases h
      · rename_i h3
        exact absurd h h3
theorem back {m p q : List UInt8} {hs : List S55} {body : List Int} {who sec : List UInt8} {t : Int} {r : Res} (h : Att m p q hs body who sec t r) (h0 : 0 ≤ t) (sec' : List UInt8) (now : Int) :
    verZ m p q r.2.2.2.1 body sec' now = if nearZ t now = true then (if bl (signZ sec' m p q (hs ++ [dateH t]) body (sortL (nmsL (hs ++ [dateH t]))) t).1 = bl (signZ sec m p q (hs ++ [dateH t]) body (sortL (nmsL (hs ++ [dateH t]))) t).1 then 0 else 20) else 21 := by
  obtain ⟨t1, au, xd, len, sg, rt, rfl⟩ := h
  dsimp only
  have hrd := rdS_show rt
  have hcz := canZ_left m p q (hs ++ [dateH t]) ⟨authB, B (showB who ((showT t).take 8) (sortL (nmsL (hs ++ [dateH t]))) (bl (signZ sec m p q (hs ++ [dateH t]) body (sortL (nmsL (hs ++ [dateH t]))) t).1))⟩ body (sortL (nmsL (hs ++ [dateH t]))) (fun n hn => (sortL_perm _).mem_iff.1 hn)
  have h9 : (signZ sec' m p q (hs ++ [dateH t]) body (sortL (nmsL (hs ++ [dateH t]))) t).2 = 0 := by
    unfold signZ at sg ⊢
    rw [if_neg (by omega)] at sg ⊢
    split at sg
    · rename_i hc; rw [if_pos hc]
    · rename_i hc; exact absurd sg hc
  generalize htx : showB who ((showT t).take 8) (sortL (nmsL (hs ++ [dateH t]))) (bl (signZ sec m p q (hs ++ [dateH t]) body (sortL (nmsL (hs ++ [dateH t]))) t).1) = tx at *
  have hsz : signZ sec' m p q ((hs ++ [dateH t]) ++ [⟨authB, B tx⟩]) body (sortL (nmsL (hs ++ [dateH t]))) t = signZ sec' m p q (hs ++ [dateH t]) body (sortL (nmsL (hs ++ [dateH t]))) t := by
    unfold signZ
    rw [hcz]
  have hcont : (sortL (nmsL (hs ++ [dateH t]))).contains (bl xdateB) = true := by
    rw [List.contains_iff_mem, (sortL_perm _).mem_iff]
    unfold nmsL
    rw [List.map_append]
    exact List.mem_append.2 (.inr (by simp [dateH]))
  have fa : findH ((hs ++ [dateH t]) ++ [⟨authB, B tx⟩]) authB = (B tx, true) :=
    findH_right ⟨authB, B tx⟩ (findH_skip (dateH t) au (fun e => authX e.symm)) rfl
  have fx0 : findH (hs ++ [dateH t]) xdateB = (B (showT t), true) := findH_right (dateH t) xd rfl
  have fx : findH ((hs ++ [dateH t]) ++ [⟨authB, B tx⟩]) xdateB = (B (showT t), true) := by
    rw [findH_left _ (by rw [fx0]), fx0]
  unfold verZ
  rw [fa, fx]
  dsimp only
  rw [blB, blB, hrd, read_show t h0 t1]
  dsimp only
  rw [if_pos (by simp [orZ]), blB, if_pos rfl, jn_map, if_pos hcont, hsz, h9, if_pos rfl]
  rfl
theorem near_self (t : Int) : nearZ t t = true := by
  unfold nearZ
  have : mx t t - mn t t = 0 := by unfold mx mn; simp
  rw [this]
  decide
end Go.Proofs.YtghcadbmjglidaaGreatDoor.Sp
end
section
set_option linter.unusedVariables false
namespace Go.Proofs.YtghcadbmjglidaaGreatDoor.Sp
open Go.RowKit Go.Proofs.YtghcadbmjglidaaGreatDoor.PSg Go.Proofs.YtghcadbmjglidaaGreatDoorW.PrintWords Go.Proofs.YtghcadbmjglidaaGreatDoorW.PrintLast
theorem hexD_S (n : Nat) (h : n < 16) : pS (hexD n) = true := by
  have : ∀ i : Fin 16, pS (hexD i.val) = true := by decide +kernel
  exact this ⟨n, h⟩
theorem hexZ_S (l : List Nat) (h : ∀ x ∈ l, x < 256) : (hexZ l).all pS = true := by
  rw [List.all_eq_true]
  intro c hc
  unfold hexZ at hc
  obtain ⟨x, hx, hc⟩ := List.mem_flatMap.1 hc
  obtain ⟨y, hy, rfl⟩ := List.mem_map.1 hx
  have := h y hy
  unfold hexTwo hx1 hx2 at hc
  rw [Int.toNat_natCast] at hc
  rcases List.mem_cons.1 hc with rfl | hc
  · exact hexD_S _ (by omega)
  · rw [List.mem_singleton] at hc
    subst hc
    exact hexD_S _ (by omega)
theorem okS_sig (sec : List UInt8) (t : Int) (c : List UInt8) : okS (sigL sec t c) = true := by
  unfold okS
  rw [sigL_len]
  simp only [decide_true, Bool.and_true]
  exact hexZ_S _ (chainN_lt _ _)
def t0 : Int := 1440938160
def hostL : List UInt8 := [104, 111, 115, 116]
def xdL : List UInt8 := [120, 45, 97, 109, 122, 45, 100, 97, 116, 101]
def hs0 : List S55 := [⟨B hostL, B [104]⟩]
def ns0 : List (List UInt8) := [hostL, xdL]
theorem nms0 : nmsL (hs0 ++ [dateH t0]) = ns0 := rfl
theorem sort0 : sortL (nmsL (hs0 ++ [dateH t0])) = ns0 := by
  rw [nms0]
  unfold sortL
  refine List.mergeSort_of_pairwise ?_
  unfold ns0 hostL xdL
  simp [List.pairwise_cons]
  decide
theorem small0 : Small [71, 69, 84] [47, 98] [] hs0 [] := ⟨by decide, by decide, by decide, by decide, fun x hx => by
  rw [List.mem_singleton.1 hx]; decide, by decide, fun x hx => absurd hx (List.not_mem_nil)⟩
theorem dec0 : decR [47, 98] = ([47, 98], 0) := by
  unfold decR
  rw [dec_all [47, 98] (by decide)]
theorem res0 : resQ [] = ([], 0) := by unfold resQ; rw [if_pos rfl]
theorem notin {n : List UInt8} (h : n ≠ hostL) : (findH hs0 (B n)).2 = false := by
  unfold findH hs0
  rw [List.find?_cons]
  rw [show ((⟨B hostL, B [104]⟩ : S55).f0.toList == (B n).toList) = false from beq_eq_false_iff_ne.2 (by rw [toL, toL]; exact fun e => h e.symm)]
  rfl
theorem f0host : findH hs0 (B hostL) = (B [104], true) := by
  unfold findH hs0
  rw [List.find?_cons]
  rw [show ((⟨B hostL, B [104]⟩ : S55).f0.toList == (B hostL).toList) = true from beq_self_eq_true _]
theorem fhost : findH (hs0 ++ [dateH t0]) (B hostL) = (B [104], true) := by
  rw [findH_left _ (by rw [f0host]), f0host]
theorem xdB : xdateB = B xdL := rfl
theorem fdate : findH (hs0 ++ [dateH t0]) (B xdL) = (B (showT t0), true) := findH_right (dateH t0) (notin (by decide)) rfl
def c0 : List UInt8 := Uri.jn [10] [[71, 69, 84], [47, 98], [], hostL ++ [58] ++ [104], xdL ++ [58] ++ showT t0, [], Uri.jn [59] ns0, hexZ (shaOf [])]
theorem text0 : textL [71, 69, 84] [47, 98] [] (hs0 ++ [dateH t0]) [] ns0 = c0 := by
  unfold textL c0 ns0
  rw [dec0, res0]
  have h1 : Uri.canon (prs []) = [] := by
    unfold Uri.canon Uri.sorted prs
    simp [Uri.jn]
  dsimp only
  rw [h1, show Uri.enc true [47, 98] = [47, 98] from by decide +kernel]
  rw [List.map_cons, List.map_cons, List.map_nil, show lineL (hs0 ++ [dateH t0]) hostL = hostL ++ [58] ++ [104] from by unfold lineL; rw [fhost]; rfl, show lineL (hs0 ++ [dateH t0]) xdL = xdL ++ [58] ++ showT t0 from by unfold lineL; rw [fdate]; rfl]
  rfl
theorem can0 : canZ [71, 69, 84] [47, 98] [] (hs0 ++ [dateH t0]) [] ns0 = (B c0, 0) := by
  unfold canZ
  rw [if_pos (by decide), if_pos, dec0, res0, if_pos (by simp [orZ]), text0]
  unfold ns0
  rw [List.all_cons, List.all_cons, List.all_nil, fhost, fdate]
  rfl
theorem sign0 (sec : List UInt8) : signZ sec [71, 69, 84] [47, 98] [] (hs0 ++ [dateH t0]) [] ns0 t0 = (B (sigL sec t0 c0), 0) := by
  unfold signZ
  rw [can0, if_neg (by decide), if_pos rfl]
  rfl
theorem att0 : (attZ [71, 69, 84] [47, 98] [] hs0 [] [97, 49] [115] t0).2.2.2.2.2 = 0 := by
  unfold attZ
  rw [if_neg (by decide), if_neg]
  · unfold attT
    rw [sort0, sign0, if_pos rfl]
    dsimp only
    rw [if_pos]
    show rightB [97, 49] ((showT t0).take 8) ns0 (sigL [115] t0 c0) = true
    unfold rightB
    rw [okS_sig, show okA [97, 49] = true from by decide, show okD ((showT t0).take 8) = true from by decide +kernel, show okNs ns0 = true from by decide]
    rfl
  · rw [show authB = B [97, 117, 116, 104, 111, 114, 105, 122, 97, 116, 105, 111, 110] from rfl, notin (by decide), xdB, notin (by decide)]
    simp [hs0]
set_option maxRecDepth 100000 in
theorem sig_no : sigL [116] t0 c0 ≠ sigL [115] t0 c0 := by decide +kernel
theorem alive_f (k : Nat) (hk : 1000000 < k) : stelelaw06_alive.f k = some true := by
  have hatt := att_ok att0
  have hb := back hatt (by decide) [115] t0
  have hb2 := back hatt (by decide) [116] t0
  rw [near_self, if_pos rfl, if_pos rfl] at hb
  rw [near_self, if_pos rfl, sort0, sign0, sign0, if_neg (by show ¬ (sigL [116] t0 c0 = sigL [115] t0 c0); exact sig_no)] at hb2
  have ha := attach_f [71, 69, 84] [47, 98] [] hs0 [] [97, 49] [115] t0 small0 (fun x hx => by rw [List.mem_singleton.1 hx]; decide) (by decide) (by decide) (by decide) (by decide) k (by omega)
  have heq := hatt.eq
  have hv : ∀ sec : List UInt8, sec.length ≤ 1000000 → sigv4_Verify.f k (B [71, 69, 84]) (B [47, 98]) (B []) (attZ [71, 69, 84] [47, 98] [] hs0 [] [97, 49] [115] t0).2.2.2.1 [] (B sec) t0 = some (verZ [71, 69, 84] [47, 98] [] (attZ [71, 69, 84] [47, 98] [] hs0 [] [97, 49] [115] t0).2.2.2.1 [] sec t0) := by
    intro sec hsec
    refine verify_f _ _ _ _ _ sec t0 ?_ hsec k hk
    rw [heq]
    refine small_snoc (small_snoc small0 (dateH t0) (by show (bl (B (showT t0))).length ≤ _; rw [blB, showT_len]; decide) (by decide)) _ ?_ (by decide)
    rw [sort0, sign0]
    unfold showB
    simp only [blB, List.length_append, List.length_take, showT_len, sigL_len]
    decide
  have e1 : (attZ [71, 69, 84] [47, 98] [] hs0 [] [97, 49] [115] t0).1 = B [71, 69, 84] := by rw [heq]
  have e2 : (attZ [71, 69, 84] [47, 98] [] hs0 [] [97, 49] [115] t0).2.1 = B [47, 98] := by rw [heq]
  have e3 : (attZ [71, 69, 84] [47, 98] [] hs0 [] [97, 49] [115] t0).2.2.1 = B [] := by rw [heq]
  have e4 : (attZ [71, 69, 84] [47, 98] [] hs0 [] [97, 49] [115] t0).2.2.2.2.1 = [] := by rw [heq]
  have e5 := att0
  have v1 := hv [115] (by decide)
  have v2 := hv [116] (by decide)
  rw [hb] at v1
  rw [hb2] at v2
  clear hatt hb hb2 heq hv
  unfold stelelaw06_alive.f
  change ((sigv4_Attach.f k (B [71, 69, 84]) (B [47, 98]) (B []) hs0 [] (B [97, 49]) (B [115]) t0).bind _) = _
  rw [ha]
  generalize attZ [71, 69, 84] [47, 98] [] hs0 [] [97, 49] [115] t0 = R at *
  obtain ⟨r1, r2, r3, r4, r5, r6⟩ := R
  dsimp only at e1 e2 e3 e4 e5 v1 v2
  subst e1 e2 e3 e4 e5
  rw [Option.bind_some, if_pos rfl]
  change ((sigv4_Verify.f k (B [71, 69, 84]) (B [47, 98]) (B []) r4 [] (B [115]) t0).bind _) = _
  rw [v1, Option.bind_some, if_pos rfl]
  change ((sigv4_Verify.f k (B [71, 69, 84]) (B [47, 98]) (B []) r4 [] (B [116]) t0).bind _) = _
  rw [v2]
  rfl
end Go.Proofs.YtghcadbmjglidaaGreatDoor.Sp
end
section
set_option linter.unusedVariables false
namespace Go.Proofs.YtghcadbmjglidaaGreatDoor.Sp
open Go.RowKit Go.Proofs.YtghcadbmjglidaaGreatDoor.PSg Go.Proofs.YtghcadbmjglidaaGreatDoorW.PrintWords Go.Proofs.YtghcadbmjglidaaGreatDoorW.PrintLast
theorem blS (b : ByteArray) : (bl b).length = b.size := (Lib.size_eq b).symm
theorem texts_l0 (l : List ByteArray) (hl : l.length ≤ 1000000) : ∀ (d k i : Nat), d = l.length - i → i ≤ l.length → d < k → stelelaw06_texts.l0 k l l (i : Int) = some true
  | d, k, i, hd, hi, hk => by
    obtain ⟨k, rfl⟩ : ∃ m, k = m + 1 := ⟨k - 1, by omega⟩
    rw [stelelaw06_texts.l0]
    cases d with
    | zero => rw [if_neg (by omega)]
    | succ d => rw [if_pos (by omega), if_pos (by omega), if_pos (by omega), if_pos rfl, w1 i (by omega)]; exact texts_l0 l hl d k (i + 1) (by omega) (by omega) (by omega)
theorem texts_f (l : List ByteArray) (hl : l.length ≤ 1000000) (k : Nat) (hk : l.length < k) : stelelaw06_texts.f k l l = some true := by
  unfold stelelaw06_texts.f
  rw [if_pos rfl]
  exact texts_l0 l hl l.length k 0 rfl (Nat.zero_le _) hk
theorem bl_map (l : List ByteArray) : (l.map bl).map B = l := by
  rw [List.map_map]
  exact (List.map_congr_left fun x _ => B_bl x).trans (List.map_id l)
set_option maxRecDepth 100000 in
set_option maxHeartbeats 8000000 in
theorem auths_calls (k : Nat) (hk : 1000000 < k) (s a0 a1 a3 : ByteArray) (A2 : Option Addr) (c2 : Nat) (l2 : List ByteArray) (w : World) (hr2 : Kd.C Kd.string w A2 l2.length l2) (hc2 : l2.length ≤ c2) (hM : Aside0 (MaxOk w))
    (hs : s.size ≤ 1048576) (h0 : a0.size ≤ 1048576) (h1 : a1.size ≤ 1048576) (h3 : a3.size ≤ 1048576) (h2 : l2.length ≤ 1048576) (hsum : (l2.map (·.size)).sum ≤ 1048576) :
    Calls Tryz.prog 3 #[.string s, .agg #[.string a0, .string a1, .slice A2 l2.length c2, .string a3]] w fun e w' => e = .returned (.bool true) ∧ Below w.heap.size w w' := by
  have hz0 := Lib.hid hr2
  clear hr2
  by_cases hl : 5000 < s.size
  · have q1 : decide ((5000 : Int) < (s.size : Int)) = true := by simp; omega
    obtain ⟨W0, hW0⟩ : ∃ W0, W0 = w.alloc (.cells #[.string a0, .string a1, .slice A2 l2.length c2, .string a3] 24) := ⟨_, rfl⟩
    have bk0 : W0.heap[w.heap.size]? = some (.cells #[.string a0, .string a1, .slice A2 l2.length c2, .string a3] 24 (0, 0)) := by rw [hW0]; exact heap_alloc_new w _
    have F0 := Lib.hid (show Fr (fun _ => False) w W0 by rw [hW0]; exact (Fr.refl _ _).alloc _)
    obtain ⟨⟨b0, b1, b2, b3⟩, -⟩ := blk4 bk0
    have BK0 := Lib.hid bk0
    clear bk0
    go_enter Tryz.func3, Tryz.ntmps3
    go_wp2_with fail
    rw [← hW0]
    clear hW0
    go_wp2_with (first
      | (go_at_call 6; with_reducible refine (stelelaw06_alive.calls k true W0 (alive_f k hk) (mxk hM (F0.out.below (Nat.le_refl _) (fun _ _ => id)))).mono ?_; rintro e wz ⟨rfl, hbz⟩
         have FZ := Lib.hid (F0.out.trans (Fr.of_below0 hbz))
         clear hbz))
    go_ret
    exact ⟨rfl, FZ.out.below (Nat.le_refl _) (fun _ _ => id)⟩
  have q1 : decide ((5000 : Int) < (s.size : Int)) = false := by simp; omega
  by_cases hn : 100 < l2.length
  · have q2 : decide ((100 : Int) < (l2.length : Int)) = true := by simp; omega
    obtain ⟨W0, hW0⟩ : ∃ W0, W0 = w.alloc (.cells #[.string a0, .string a1, .slice A2 l2.length c2, .string a3] 24) := ⟨_, rfl⟩
    have bk0 : W0.heap[w.heap.size]? = some (.cells #[.string a0, .string a1, .slice A2 l2.length c2, .string a3] 24 (0, 0)) := by rw [hW0]; exact heap_alloc_new w _
    have F0 := Lib.hid (show Fr (fun _ => False) w W0 by rw [hW0]; exact (Fr.refl _ _).alloc _)
    obtain ⟨⟨b0, b1, b2, b3⟩, -⟩ := blk4 bk0
    have BK0 := Lib.hid bk0
    clear bk0
    go_enter Tryz.func3, Tryz.ntmps3
    go_wp2_with fail
    rw [← hW0]
    clear hW0
    go_wp2_with (first
      | (go_at_call 6; with_reducible refine (stelelaw06_alive.calls k true W0 (alive_f k hk) (mxk hM (F0.out.below (Nat.le_refl _) (fun _ _ => id)))).mono ?_; rintro e wz ⟨rfl, hbz⟩
         have FZ := Lib.hid (F0.out.trans (Fr.of_below0 hbz))
         clear hbz))
    go_ret
    exact ⟨rfl, FZ.out.below (Nat.le_refl _) (fun _ _ => id)⟩
  have q2 : decide ((100 : Int) < (l2.length : Int)) = false := by simp; omega
  have hA := read_f (bl s) (by rw [blS]; omega) k (by rw [blS]; omega)
  have hRA := rread_f (bl s) (by rw [blS]; omega) k (by rw [blS]; omega)
  rw [B_bl] at hA hRA
  obtain ⟨LN, hLN, hLN1, -, -⟩ := rdS_names (bl s) (by rw [blS]; omega)
  have hTX := texts_f (rdS (bl s)).2.2.1 (by rw [hLN, List.length_map]; omega) k (by rw [hLN, List.length_map]; omega)
  clear hLN hLN1
  generalize rdS (bl s) = X at hA hRA hTX
  obtain ⟨x1, x2, x3, x4, x5⟩ := X
  dsimp only at hTX
  have hsum2 : ((l2.map bl).map List.length).sum ≤ 100000000 := by
    rw [List.map_map, show (List.length ∘ bl) = (fun x : ByteArray => x.size) from funext fun x => blS x]
    exact Nat.le_trans hsum (by decide)
  have hSH := show_f (bl a0) (bl a1) (bl a3) (l2.map bl) (by rw [blS]; omega) (by rw [blS]; omega) (by rw [blS]; omega) hsum2 (by rw [List.length_map]; omega)
  have hRS := rshow_f (bl a0) (bl a1) (bl a3) (l2.map bl) (by rw [blS]; omega) (by rw [blS]; omega) (by rw [blS]; omega) hsum2 (by rw [List.length_map]; omega) k (by rw [List.length_map]; omega)
  rw [B_bl, B_bl, B_bl, bl_map] at hSH hRS
  generalize B (showB (bl a0) (bl a1) (l2.map bl) (bl a3)) = T at hSH hRS
  have HA := Lib.hid hA
  have HRA := Lib.hid hRA
  have HTX := Lib.hid hTX
  have HSH := Lib.hid hSH
  have HRS := Lib.hid hRS
  clear hA hRA hTX hSH hRS hsum hsum2 hl hn
  obtain ⟨W0, hW0⟩ : ∃ W0, W0 = w.alloc (.cells #[.string a0, .string a1, .slice A2 l2.length c2, .string a3] 24) := ⟨_, rfl⟩
  have bk0 : W0.heap[w.heap.size]? = some (.cells #[.string a0, .string a1, .slice A2 l2.length c2, .string a3] 24 (0, 0)) := by rw [hW0]; exact heap_alloc_new w _
  have F0 := Lib.hid (show Fr (fun _ => False) w W0 by rw [hW0]; exact (Fr.refl _ _).alloc _)
  obtain ⟨⟨b0, b1, b2, b3⟩, -⟩ := blk4 bk0
  have BK0 := Lib.hid bk0
  clear bk0
  go_enter Tryz.func3, Tryz.ntmps3
  go_wp2_with fail
  rw [← hW0]
  clear hW0
  go_wp2_with (first
    | (go_at_call 7; with_reducible refine (sigv4_ReadAuth.calls k s x1 x2 x3 x4 x5 W0 HA.out (mxk hM (F0.out.below (Nat.le_refl _) (fun _ _ => id)))).mono ?_; clear HA; rintro e w1 ⟨v1, rfl, hR1, hb1⟩
       obtain ⟨AX, CX, rfl⟩ := Kd.R_slice hR1
       have F1 := Lib.hid (F0.out.trans (Fr.of_below0 hb1))
       have BK1 := Lib.hid ((Fr.of_below0 hb1).heap BK0.out id)
       have HR1 := Lib.hid hR1
       clear hR1 hb1 F0 BK0 b0 b1 b2 b3)
    | (go_at_call 8; with_reducible refine (steleref06_ReadAuth.calls k s x1 x2 x3 x4 x5 (w1.alloc (.cells #[.string x1, .string x2, .slice AX x3.length CX, .string x4] 26)) HRA.out).mono ?_; clear HRA; rintro e w3 ⟨v3, rfl, hR3, hb3⟩
       obtain ⟨AY, CY, rfl⟩ := Kd.R_slice hR3
       have f13 : Fr (fun _ => False) w1 w3 := ((Fr.refl _ _).alloc _).trans (Fr.of_below0 hb3)
       have BX3 := Lib.hid ((Fr.of_below0 hb3).heap (heap_alloc_new w1 (.cells #[.string x1, .string x2, .slice AX x3.length CX, .string x4] 26)) id)
       have HR3 := Lib.hid hR3
       have HX3 := Lib.hid (Kd.R_below HR1.out (f13.below (Nat.le_refl _) (fun _ _ => id)))
       have F3 := Lib.hid (F1.out.trans f13)
       have BK3 := Lib.hid (f13.heap BK1.out id)
       clear hR3 hb3 f13 F1 BK1 HR1))
  have FV := Lib.hid (F3.out.alloc (.cells #[.string x1, .string x2, .slice AY x3.length CY, .string x4] 24))
  have HXV := Lib.hid (Kd.R_alloc HX3.out (.cells #[.string x1, .string x2, .slice AY x3.length CY, .string x4] 24))
  have HYV := Lib.hid (Kd.R_alloc HR3.out (.cells #[.string x1, .string x2, .slice AY x3.length CY, .string x4] 24))
  have BXV := Lib.hid (((Fr.refl (fun _ => False) w3).alloc (.cells #[.string x1, .string x2, .slice AY x3.length CY, .string x4] 24)).heap BX3.out id)
  have BYV := Lib.hid (heap_alloc_new w3 (.cells #[.string x1, .string x2, .slice AY x3.length CY, .string x4] 24))
  have BAV := Lib.hid (((Fr.refl (fun _ => False) w3).alloc (.cells #[.string x1, .string x2, .slice AY x3.length CY, .string x4] 24)).heap BK3.out id)
  clear F3 HX3 HR3 BX3 BK3
  generalize w3.alloc (.cells #[.string x1, .string x2, .slice AY x3.length CY, .string x4] 24) = V at *
  generalize w3.heap.size = gy at *
  generalize w1.heap.size = gx at *
  generalize w.heap.size = ga at *
  have HC2 := Lib.hid (Kd.C_below hz0.out (FV.out.below (Nat.le_refl _) (fun _ _ => id)))
  have CELLS := Lib.hid (show ∀ W', Fr (fun _ => False) V W' → W'.cell? ⟨gx, 0, none⟩ = some (.string x1) ∧ W'.cell? ⟨gx, 1, none⟩ = some (.string x2) ∧ W'.cell? ⟨gx, 2, none⟩ = some (.slice AX x3.length CX) ∧ W'.cell? ⟨gx, 3, none⟩ = some (.string x4) ∧ W'.cell? ⟨gy, 0, none⟩ = some (.string x1) ∧ W'.cell? ⟨gy, 1, none⟩ = some (.string x2) ∧ W'.cell? ⟨gy, 2, none⟩ = some (.slice AY x3.length CY) ∧ W'.cell? ⟨gy, 3, none⟩ = some (.string x4) ∧ W'.cell? ⟨ga, 0, none⟩ = some (.string a0) ∧ W'.cell? ⟨ga, 1, none⟩ = some (.string a1) ∧ W'.cell? ⟨ga, 2, none⟩ = some (.slice A2 l2.length c2) ∧ W'.cell? ⟨ga, 3, none⟩ = some (.string a3) from fun W' f => by
    obtain ⟨⟨p0, p1, p2, p3⟩, -⟩ := blk4 (f.heap BXV.out id)
    obtain ⟨⟨p4, p5, p6, p7⟩, -⟩ := blk4 (f.heap BYV.out id)
    obtain ⟨⟨p8, p9, p10, p11⟩, -⟩ := blk4 (f.heap BAV.out id)
    exact ⟨p0, p1, p2, p3, p4, p5, p6, p7, p8, p9, p10, p11⟩)
  have V0f := Lib.hid (show Fr (fun _ => False) V V.drew from (Fr.refl _ _).drew)
  obtain ⟨k0, k1, k2, k3, k4, k5, k6, k7, k8, k9, k10, k11⟩ := CELLS.out V (Fr.refl _ _)
  clear hz0 BXV BYV BAV
  go_region_held3 (fun W' => W'.cell? ⟨gx, 0, none⟩ = some (.string x1) ∧ W'.cell? ⟨gx, 1, none⟩ = some (.string x2) ∧ W'.cell? ⟨gx, 2, none⟩ = some (.slice AX x3.length CX) ∧ W'.cell? ⟨gx, 3, none⟩ = some (.string x4) ∧ W'.cell? ⟨gy, 0, none⟩ = some (.string x1) ∧ W'.cell? ⟨gy, 1, none⟩ = some (.string x2) ∧ W'.cell? ⟨gy, 2, none⟩ = some (.slice AY x3.length CY) ∧ W'.cell? ⟨gy, 3, none⟩ = some (.string x4) ∧ W'.cell? ⟨ga, 0, none⟩ = some (.string a0) ∧ W'.cell? ⟨ga, 1, none⟩ = some (.string a1) ∧ W'.cell? ⟨ga, 2, none⟩ = some (.slice A2 l2.length c2) ∧ W'.cell? ⟨ga, 3, none⟩ = some (.string a3)) (go_keep) (first
  | (go_at_call 9; with_reducible refine (stelelaw06_texts.calls k AX CX x3 AY CY x3 true V.drew (Kd.C_drew (Kd.R_reads' HXV.out).2.2) (Kd.R_reads' HXV.out).2.1 (Kd.C_drew (Kd.R_reads' HYV.out).2.2) (Kd.R_reads' HYV.out).2.1 HTX.out).mono ?_; rintro e u1 ⟨rfl, hd⟩
     have u1f := Lib.hid (V0f.out.trans (Fr.of_below0 hd.below))
     obtain ⟨k0, k1, k2, k3, k4, k5, k6, k7, k8, k9, k10, k11⟩ := CELLS.out u1 u1f.out
     clear hd)
  | (go_at_call 10; with_reducible refine (sigv4_ShowAuth.calls a0 a1 A2 c2 l2 a3 T u1 (Kd.C_below HC2.out (u1f.out.below (Nat.le_refl _) (fun _ _ => id))) hc2 HSH.out).mono ?_; rintro e u2 ⟨rfl, hb⟩
     have u2f := Lib.hid (u1f.out.trans (Fr.of_below0 hb))
     obtain ⟨k0, k1, k2, k3, k4, k5, k6, k7, k8, k9, k10, k11⟩ := CELLS.out u2 u2f.out
     clear hb)
  | (go_at_call 11; with_reducible refine (steleref06_ShowAuth.calls k a0 a1 A2 c2 l2 a3 T u2 (Kd.C_below HC2.out (u2f.out.below (Nat.le_refl _) (fun _ _ => id))) hc2 HRS.out).mono ?_; rintro e u3 ⟨rfl, hb⟩
     have u3f := Lib.hid (u2f.out.trans (Fr.of_below0 hb))
     obtain ⟨k0, k1, k2, k3, k4, k5, k6, k7, k8, k9, k10, k11⟩ := CELLS.out u3 u3f.out
     clear hb)
  | (go_at_call 6; with_reducible refine (stelelaw06_alive.calls k true u3 (alive_f k hk) (mxk hM ((FV.out.trans u3f.out).below (Nat.le_refl _) (fun _ _ => id)))).mono ?_; rintro e u4 ⟨rfl, hb⟩
     have u4f := Lib.hid (u3f.out.trans (Fr.of_below0 hb))
     obtain ⟨k0, k1, k2, k3, k4, k5, k6, k7, k8, k9, k10, k11⟩ := CELLS.out u4 u4f.out
     clear hb))
  all_goals
    go_wp2
    go_ret
    exact ⟨rfl, ((FV.out.trans u4f.out).below (Nat.le_refl _) (fun _ _ => id))⟩
end Go.Proofs.YtghcadbmjglidaaGreatDoor.Sp
end
