/- The plain law of UriSorts: what its printed functions compute, in lists and numbers: it is true whatever the input. -/
import Derived.Test.YtdfkinkihkgdbaaDoorPUsx2
namespace Go.Proofs.YtdfkinkihkgdbaaDoor.Pure
open Go.RowKit Go.Proofs.YtdfkinkihkgdbaaDoor.PUs Go.Proofs.YtdfkinkihkgdbaaDoorW.PrintWords Go.Proofs.YtdfkinkihkgdbaaDoorW.PrintLast
set_option linter.unusedVariables false
abbrev B (l : List UInt8) : ByteArray := ⟨l.toArray⟩
def G (acc : List S37) (rest : List (List UInt8)) : Option (List S37) := rest.foldl (fun o x => o.bind (fun acc => stepQ acc x)) (some acc)
theorem G_cons (acc : List S37) (x : List UInt8) (rest : List (List UInt8)) : G acc (x :: rest) = (stepQ acc x).bind fun a => G a rest := by
  show List.foldl _ (stepQ acc x) rest = _
  cases h : stepQ acc x with
  | none => exact runQ_stuck rest
  | some a => rfl
theorem parts_ne (c : UInt8) : ∀ l, ∃ x r, parts c l = x :: r
  | [] => ⟨[], [], rfl⟩
  | x :: t => by
    rw [parts_cons]
    obtain ⟨y, r, h⟩ := parts_ne c t
    split
    · exact ⟨_, _, rfl⟩
    · rw [h]; exact ⟨_, _, rfl⟩
theorem parts_len (c : UInt8) : ∀ (l : List UInt8) (x : List UInt8), x ∈ parts c l → x.length ≤ l.length
  | [], x, h => by simp [parts] at h; subst h; simp
  | y :: t, x, h => by
    rw [parts_cons] at h
    split at h
    · rcases List.mem_cons.1 h with rfl | h
      · simp
      · have := parts_len c t x h; simp; omega
    · obtain ⟨a, r, hr⟩ := parts_ne c t
      rw [hr] at h
      have hm := parts_len c t
      rw [hr] at hm
      rcases List.mem_cons.1 h with rfl | h
      · have := hm a (List.mem_cons_self ..); simp; omega
      · have := hm x (List.mem_cons_of_mem _ h); simp; omega
def nm (x : S37) : List UInt8 := x.f0.data.toList
def vl (x : S37) : List UInt8 := x.f1.data.toList
/-- What holds of the pairs of a query. -/
structure Inv (M : Nat) (acc : List S37) : Prop where
  nd : (acc.map nm).Nodup
  ne : ∀ x ∈ acc, nm x ≠ []
  sz : ∀ x ∈ acc, (nm x).length ≤ M ∧ (vl x).length ≤ M
theorem toL (n : List UInt8) : (B n).toList = n := by rw [ByteArray.toList_eq]
theorem toL' (b : ByteArray) : b.toList = b.data.toList := by rw [ByteArray.toList_eq]
theorem findP_none {acc : List S37} {n : List UInt8} (h : (findP acc (B n)).2 = false) : n ∉ acc.map nm := by
  intro hm
  obtain ⟨x, hx, rfl⟩ := List.mem_map.1 hm
  unfold findP at h
  cases hf : acc.find? (fun y => y.f0.toList == (B (nm x)).toList) with
  | none =>
    have := List.find?_eq_none.1 hf x hx
    rw [toL, toL'] at this
    exact this (beq_self_eq_true _)
  | some y => rw [hf] at h; cases h
theorem decR_len (l : List UInt8) : (decR l).1.length ≤ l.length := by
  unfold decR
  cases h : Uri.dec l with
  | none => simp
  | some d => exact dec_le l d h
theorem step_inv {M : Nat} {acc ps : List S37} {x : List UInt8} (hx : x.length ≤ M) (h : Inv M acc) (hs : stepQ acc x = some ps) : Inv M ps := by
  unfold stepQ at hs
  split at hs
  · cases hs
  · rename_i hb
    cases hs
    unfold badQ at hb
    have hcl := cut1_le 61 x
    have l1 := decR_len (Uri.cut1 61 x).1
    have l2 := decR_len (Uri.cut1 61 x).2.1
    have hn : (decR (Uri.cut1 61 x).1).1 ≠ [] := fun e => hb (by rw [e]; simp)
    have hf : (findP acc ⟨(decR (Uri.cut1 61 x).1).1.toArray⟩).2 = false := by
      cases hq : (findP acc ⟨(decR (Uri.cut1 61 x).1).1.toArray⟩).2 with
      | false => rfl
      | true => exact absurd (by rw [hq]; simp) hb
    refine ⟨?_, ?_, ?_⟩
    · rw [List.map_append, List.nodup_append]
      refine ⟨h.nd, by simp, ?_⟩
      intro a ha b hb2
      rw [List.map_cons, List.map_nil, List.mem_singleton] at hb2
      rintro rfl
      have e : a = (decR (Uri.cut1 61 x).1).1 := hb2
      exact findP_none hf (by rw [← e]; exact ha)
    · intro y hy
      rcases List.mem_append.1 hy with hy | hy
      · exact h.ne y hy
      · rw [List.mem_singleton] at hy; subst hy; exact hn
    · intro y hy
      rcases List.mem_append.1 hy with hy | hy
      · exact h.sz y hy
      · rw [List.mem_singleton] at hy
        subst hy
        exact ⟨Nat.le_trans l1 (by omega), Nat.le_trans l2 (by omega)⟩
theorem G_inv {M : Nat} : ∀ (l : List (List UInt8)) (acc ps : List S37), (∀ x ∈ l, x.length ≤ M) → Inv M acc → G acc l = some ps → Inv M ps
  | [], acc, ps, _, h, e => by cases e; exact h
  | x :: t, acc, ps, hl, h, e => by
    rw [G_cons] at e
    cases hq : stepQ acc x with
    | none => rw [hq] at e; cases e
    | some a =>
      rw [hq] at e
      exact G_inv t a ps (fun y hy => hl y (List.mem_cons_of_mem _ hy)) (step_inv (hl x (List.mem_cons_self ..)) h hq) e
theorem resQ_inv {s : List UInt8} (h : (resQ s).2 = 0) (hs : s.length ≤ 20000) : Inv 20000 (resQ s).1 ∧ (resQ s).1.length ≤ 24 := by
  unfold resQ at h ⊢
  split
  · exact ⟨⟨by simp, by simp, by simp⟩, by simp⟩
  · rename_i h0
    rw [if_neg h0] at h
    cases hr : runQ (parts 38 s) with
    | none => rw [hr] at h; cases h
    | some ps => exact ⟨G_inv (parts 38 s) [] ps (fun x hx => Nat.le_trans (parts_len 38 s x hx) hs) ⟨by simp, by simp, by simp⟩ hr, runQ_len hr⟩
theorem enc1_signs : ∀ c : Fin 256, ∀ x ∈ Uri.enc1 false (UInt8.ofNat c.val), x ≠ 38 ∧ x ≠ 61 := by decide +kernel
theorem enc_signs (l : List UInt8) : ∀ x ∈ Uri.enc false l, x ≠ 38 ∧ x ≠ 61 := by
  intro x hx
  unfold Uri.enc at hx
  obtain ⟨c, _, hc⟩ := List.mem_flatMap.1 hx
  have := enc1_signs ⟨c.toNat, c.toNat_lt⟩ x
  rw [UInt8.ofNat_toNat] at this
  exact this hc
theorem decR_enc (l : List UInt8) : decR (Uri.enc false l) = (l, 0) := decR_some (Uri.dec_enc false l)
theorem cut1_mid (c : UInt8) (t : List UInt8) : ∀ (l : List UInt8), (∀ x ∈ l, x ≠ c) → Uri.cut1 c (l ++ c :: t) = (l, t, true)
  | [], _ => by simp [Uri.cut1]
  | x :: l, h => by
    rw [List.cons_append, Uri.cut1, if_neg (h x (List.mem_cons_self ..)), cut1_mid c t l (fun y hy => h y (List.mem_cons_of_mem _ hy))]
def toS (p : Uri.Pr) : S37 := ⟨B p.1, B p.2⟩
theorem nm_toS (p : Uri.Pr) : nm (toS p) = p.1 := rfl
theorem findP_mem {acc : List S37} {n : List UInt8} (h : n ∉ acc.map nm) : (findP acc (B n)).2 = false := by
  unfold findP
  have : acc.find? (fun y => y.f0.toList == (B n).toList) = none := by
    rw [List.find?_eq_none]
    intro x hx hb
    rw [toL, toL'] at hb
    exact h (List.mem_map.2 ⟨x, hx, beq_iff_eq.1 hb⟩)
  rw [this]
theorem step_piece (acc : List S37) (p : Uri.Pr) (h0 : p.1 ≠ []) (h1 : p.1 ∉ acc.map nm) (h2 : acc.length < 24) : stepQ acc (Uri.piece (Uri.enc2 p)) = some (acc ++ [toS p]) := by
  unfold stepQ badQ
  have hc : Uri.cut1 61 (Uri.piece (Uri.enc2 p)) = (Uri.enc false p.1, Uri.enc false p.2, true) := cut1_mid 61 _ _ (fun x hx => (enc_signs p.1 x hx).2)
  rw [hc]
  show (if ((orZ [(decR (Uri.enc false p.1)).2, (decR (Uri.enc false p.2)).2] != 0) || ((decR (Uri.enc false p.1)).1 == []) || (findP acc ⟨(decR (Uri.enc false p.1)).1.toArray⟩).2 || (acc.length == 24)) = true then none else some (acc ++ [⟨⟨(decR (Uri.enc false p.1)).1.toArray⟩, ⟨(decR (Uri.enc false p.2)).1.toArray⟩⟩])) = _
  rw [decR_enc, decR_enc]
  have e1 : (orZ [(0 : Int), 0] != 0) = false := rfl
  have e2 : (p.1 == []) = false := beq_eq_false_iff_ne.2 h0
  have e3 : (findP acc ⟨p.1.toArray⟩).2 = false := findP_mem h1
  have e4 : (acc.length == 24) = false := beq_eq_false_iff_ne.2 (by omega)
  show (if ((orZ [(0 : Int), 0] != 0) || (p.1 == []) || (findP acc ⟨p.1.toArray⟩).2 || (acc.length == 24)) = true then none else some (acc ++ [⟨⟨p.1.toArray⟩, ⟨p.2.toArray⟩⟩])) = _
  rw [e1, e2, e3, e4]
  rfl
theorem G_pieces : ∀ (us : List Uri.Pr) (acc : List S37), (∀ p ∈ us, p.1 ≠ []) → (acc.map nm ++ us.map (·.1)).Nodup → acc.length + us.length ≤ 24 → G acc (us.map fun p => Uri.piece (Uri.enc2 p)) = some (acc ++ us.map toS)
  | [], acc, _, _, _ => by simp [G]
  | p :: us, acc, h0, hn, hl => by
    rw [List.length_cons] at hl
    have hp : p.1 ∉ acc.map nm := by
      intro h
      rw [List.nodup_append] at hn
      exact hn.2.2 p.1 h p.1 (by simp) rfl
    rw [List.map_cons, G_cons, step_piece acc p (h0 p (List.mem_cons_self ..)) hp (by omega)]
    show G (acc ++ [toS p]) _ = _
    rw [G_pieces us (acc ++ [toS p]) (fun q hq => h0 q (List.mem_cons_of_mem _ hq)) (by
      rw [List.map_append, List.append_assoc]
      simpa [nm_toS] using hn) (by simp; omega)]
    simp
theorem parts_jn : ∀ (qs : List (List UInt8)), qs ≠ [] → (∀ q ∈ qs, ∀ x ∈ q, x ≠ 38) → parts 38 (Uri.jn [38] qs) = qs
  | [], h, _ => absurd rfl h
  | [q], _, h => by
    rw [Uri.jn_one]
    exact parts_not 38 q (h q (List.mem_cons_self ..))
  | q :: r :: t, _, h => by
    have e : Uri.jn [38] (q :: r :: t) = q ++ 38 :: Uri.jn [38] (r :: t) := by
      simp [Uri.jn]
    rw [e, parts_at 38 _ q (h q (List.mem_cons_self ..)), parts_jn (r :: t) (by simp) (fun z hz => h z (List.mem_cons_of_mem _ hz))]
def dec2 (e : Uri.Pr) : Uri.Pr := ((decR e.1).1, (decR e.2).1)
theorem dec2_enc2 (p : Uri.Pr) : dec2 (Uri.enc2 p) = p := by
  show ((decR (Uri.enc false p.1)).1, (decR (Uri.enc false p.2)).1) = p
  rw [decR_enc, decR_enc]
/-- The pairs in the order of their encodings. -/
def ord (l : List Uri.Pr) : List Uri.Pr := (Uri.sorted (l.map Uri.enc2)).map dec2
theorem ord_perm (l : List Uri.Pr) : (ord l).Perm l := by
  unfold ord
  have h := (Uri.sorted_perm (l.map Uri.enc2)).map dec2
  rw [List.map_map] at h
  have e : (dec2 ∘ Uri.enc2) = id := funext dec2_enc2
  rw [e, List.map_id] at h
  exact h
theorem ord_enc (l : List Uri.Pr) : (ord l).map Uri.enc2 = Uri.sorted (l.map Uri.enc2) := by
  unfold ord
  rw [List.map_map]
  have h : ∀ e ∈ Uri.sorted (l.map Uri.enc2), (Uri.enc2 ∘ dec2) e = e := by
    intro e he
    obtain ⟨p, _, rfl⟩ := List.mem_map.1 ((Uri.sorted_perm (l.map Uri.enc2)).mem_iff.1 he)
    show Uri.enc2 (dec2 (Uri.enc2 p)) = _
    rw [dec2_enc2]
  rw [List.map_congr_left h, List.map_id']
theorem canon_ord (l : List Uri.Pr) : Uri.canon l = Uri.jn [38] ((ord l).map fun p => Uri.piece (Uri.enc2 p)) := by
  unfold Uri.canon
  rw [← ord_enc, List.map_map]
  rfl
theorem canon_perm {l m : List Uri.Pr} (h : m.Perm l) : Uri.canon m = Uri.canon l := by
  unfold Uri.canon
  have h1 : (Uri.sorted (m.map Uri.enc2)).Perm (l.map Uri.enc2) := (Uri.sorted_perm _).trans (h.map _)
  rw [Uri.sorted_of h1 (Uri.sorted_pairwise _)]
theorem piece_signs (p : Uri.Pr) : ∀ x ∈ Uri.piece (Uri.enc2 p), x ≠ 38 := by
  intro x hx
  have hx : x ∈ Uri.enc false p.1 ++ 61 :: Uri.enc false p.2 := hx
  rcases List.mem_append.1 hx with h | h
  · exact (enc_signs _ x h).1
  · rcases List.mem_cons.1 h with rfl | h
    · decide
    · exact (enc_signs _ x h).1
theorem jn_ne (q : List UInt8) (qs : List (List UInt8)) (h : q ≠ []) : Uri.jn [38] (q :: qs) ≠ [] := by
  intro e
  unfold Uri.jn at e
  exact h (List.append_eq_nil_iff.1 e).1
theorem prs_len (l : List S37) : (prs l).length = l.length := by rw [prs, List.length_map]
theorem toS_prs (x : S37) : toS (x.f0.data.toList, x.f1.data.toList) = x := by
  cases x with
  | mk a b =>
    show S37.mk (B a.data.toList) (B b.data.toList) = _
    rw [show B a.data.toList = a from Lib.mk_data a, show B b.data.toList = b from Lib.mk_data b]
theorem prs_toS (l : List Uri.Pr) : prs (l.map toS) = l := by
  unfold prs
  rw [List.map_map]
  exact List.map_id l
theorem query_canon (ps : List S37) (hI : Inv 20000 ps) (hn : ps ≠ []) (hl : ps.length ≤ 24) : resQ (Uri.canon (prs ps)) = ((ord (prs ps)).map toS, 0) := by
  have hp := ord_perm (prs ps)
  have hlen : (ord (prs ps)).length = ps.length := hp.length_eq.trans (prs_len ps)
  rw [canon_ord]
  unfold resQ
  obtain ⟨u, us, hu⟩ : ∃ u us, ord (prs ps) = u :: us := by
    cases h : ord (prs ps) with
    | nil => rw [h] at hlen; exact absurd (List.length_eq_zero_iff.1 hlen.symm) hn
    | cons u us => exact ⟨u, us, rfl⟩
  rw [if_neg (by rw [hu]; exact jn_ne _ _ (by simp [Uri.piece]))]
  rw [parts_jn _ (by rw [hu]; simp) (fun q hq => by obtain ⟨p, _, rfl⟩ := List.mem_map.1 hq; exact piece_signs p)]
  have hG := G_pieces (ord (prs ps)) [] (fun p hp2 => by
    have := hp.mem_iff.1 hp2
    obtain ⟨x, hx, rfl⟩ := List.mem_map.1 this
    exact hI.ne x hx) (by
    rw [List.map_nil, List.nil_append]
    refine (hp.map (·.1)).nodup_iff.2 ?_
    have : (prs ps).map (·.1) = ps.map nm := by unfold prs; rw [List.map_map]; rfl
    rw [this]
    exact hI.nd) (by simp; omega)
  have hG : runQ ((ord (prs ps)).map fun p => Uri.piece (Uri.enc2 p)) = some ((ord (prs ps)).map toS) := hG
  rw [hG]
theorem find_in (l : List S37) (hn : (l.map nm).Nodup) (x : S37) (hx : x ∈ l) : findP l x.f0 = (x.f1, true) := by
  unfold findP
  have : l.find? (fun y => y.f0.toList == x.f0.toList) = some x := by
    induction l with
    | nil => cases hx
    | cons y t ih =>
      rw [List.map_cons, List.nodup_cons] at hn
      rw [List.find?_cons]
      by_cases e : y.f0.toList = x.f0.toList
      · rcases List.mem_cons.1 hx with rfl | hx
        · simp
        · exfalso
          rw [toL', toL'] at e
          exact hn.1 (List.mem_map.2 ⟨x, hx, e.symm⟩)
      · rw [show (y.f0.toList == x.f0.toList) = false from beq_eq_false_iff_ne.2 e]
        rcases List.mem_cons.1 hx with rfl | hx
        · exact absurd rfl e
        · exact ih hn.2 hx
  rw [this]
theorem swap_perm (l : List S37) (i j : Nat) (hi : i < l.length) (hj : j < l.length) : ((l.set i l[j]).set j l[i]).Perm l := by
  have h := Array.swap_perm (xs := l.toArray) (i := i) (j := j) hi hj
  have h2 := Array.perm_iff_toList_perm.1 h
  simpa [Array.toList_swap] using h2
theorem enc_len2 (l : List UInt8) (h : l.length ≤ 20000) : (Uri.enc false l).length ≤ 60000 := by
  have := enc_le false l
  omega
theorem canon_len (ps : List S37) (hI : Inv 20000 ps) (hl : ps.length ≤ 24) : (Uri.canon (prs ps)).length ≤ 100000000 := by
  unfold Uri.canon
  have h1 := Uri.jn_len [38] ((Uri.sorted ((prs ps).map Uri.enc2)).map Uri.piece)
  have h2 := sum_bound ((Uri.sorted ((prs ps).map Uri.enc2)).map Uri.piece) 120001 (fun z hz => by
    obtain ⟨e, he, rfl⟩ := List.mem_map.1 hz
    obtain ⟨p, hp, rfl⟩ := List.mem_map.1 ((Uri.sorted_perm _).mem_iff.1 he)
    obtain ⟨x, hx, rfl⟩ := List.mem_map.1 hp
    have hs := hI.sz x hx
    have q1 := enc_len2 (nm x) hs.1
    have q2 := enc_len2 (vl x) hs.2
    show (Uri.enc false (nm x) ++ 61 :: Uri.enc false (vl x)).length ≤ _
    rw [List.length_append, List.length_cons]
    omega)
  rw [List.length_map, Uri.sorted_length, List.length_map, prs_len] at h1 h2
  simp only [List.length_singleton] at h1
  omega
theorem w1 (i : Nat) (h : i < 1000000) : wrap64 ((i : Int) + 1) = ((i + 1 : Nat) : Int) := by unfold wrap64; omega
theorem rd37 (l : List S37) (i : Nat) (h : i < l.length) : rd_T37 l (i : Int) = l[i] := by
  unfold rd_T37
  rw [Int.toNat_natCast, List.getD_eq_getElem?_getD, List.getElem?_eq_getElem h]
  rfl
theorem law_l0 (ps ns : List S37) (hl : ps.length ≤ 1000) (hl2 : ns.length ≤ 1000) (hf : ∀ x ∈ ps, findP ns x.f0 = (x.f1, true)) : ∀ (d k i : Nat), d = ps.length - i → i ≤ ps.length → d < k →
    stelelaw04_UriSorts.l0 k ps ns (i : Int) = some true
  | d, k, i, hd, hi, hk => by
    obtain ⟨k, rfl⟩ : ∃ m, k = m + 1 := ⟨k - 1, by omega⟩
    rw [stelelaw04_UriSorts.l0]
    cases d with
    | zero => rw [if_neg (by omega)]; rfl
    | succ d =>
      have hlt : i < ps.length := by omega
      have hfi : uri_Find.f ns (ps[i]).f0 = some ((ps[i]).f1, true) := by unfold uri_Find.f; rw [if_pos (by omega), hf _ (List.getElem_mem hlt)]
      rw [if_pos (by omega), if_pos (by omega), rd37 ps i hlt, hfi, Option.bind_some, if_pos rfl, if_pos rfl, w1 i (by omega), law_l0 ps ns hl hl2 hf d k (i + 1) (by omega) (by omega) (by omega)]
theorem canon_f (ps : List S37) (M : Nat) (hl : ps.length ≤ 1000) (h : ∀ x ∈ ps, (nm x).length ≤ 20000 ∧ (vl x).length ≤ 20000) : uri_Canon.f ps = some (B (Uri.canon (prs ps))) := by
  unfold uri_Canon.f
  rw [if_pos ⟨hl, fun x hx => by
    have := h x hx
    rw [Lib.size_eq, Lib.size_eq]
    unfold nm vl at this
    omega⟩]
theorem prs_perm {l m : List S37} (h : m.Perm l) : (prs m).Perm (prs l) := h.map _
theorem idx_bound (a : Int) (n : Nat) (hn : 0 < n) (hn2 : n ≤ 24) : ∃ i : Nat, i < n ∧ (if Int.tmod a (n : Int) < 0 then wrap64 (Int.tmod a (n : Int) + (n : Int)) else Int.tmod a (n : Int)) = (i : Int) := by
  have h1 : Int.tmod a (n : Int) < n := Int.tmod_lt_of_pos a (by omega)
  have h2 : -(n : Int) < Int.tmod a (n : Int) := by
    have := Int.tmod_lt_of_pos (-a) (b := (n : Int)) (by omega)
    rw [Int.neg_tmod] at this
    omega
  generalize Int.tmod a (n : Int) = t at *
  by_cases ht : t < 0
  · rw [if_pos ht]
    refine ⟨(t + n).toNat, by omega, ?_⟩
    have : wrap64 (t + n) = t + n := by unfold wrap64; omega
    rw [this]; omega
  · rw [if_neg ht]
    exact ⟨t.toNat, by omega, by omega⟩
theorem law_j2 (ps : List S37) (hI : Inv 20000 ps) (hl : ps.length ≤ 24) (hn : ps ≠ []) (k i j : Nat) (hk : 40 ≤ k) (hi : i < ps.length) (hj : j < ps.length) :
    stelelaw04_UriSorts.j2 k ps ps (i : Int) (j : Int) = some true := by
  obtain ⟨k, rfl⟩ : ∃ m, k = m + 2 := ⟨k - 2, by omega⟩
  have hp := ord_perm (prs ps)
  have hsz : ∀ {m : List S37}, m.Perm ps → ∀ x ∈ m, (nm x).length ≤ 20000 ∧ (vl x).length ≤ 20000 := fun h x hx => hI.sz x (h.mem_iff.1 hx)
  have hos : ((ord (prs ps)).map toS).Perm ps := by
    have h := hp.map toS
    have e : (prs ps).map toS = ps := by
      unfold prs
      rw [List.map_map]
      have : ∀ x ∈ ps, (toS ∘ fun x : S37 => (x.f0.data.toList, x.f1.data.toList)) x = x := fun x _ => toS_prs x
      rw [List.map_congr_left this, List.map_id']
    rw [e] at h
    exact h
  have hw := swap_perm ps i j hi hj
  have hq : uri_Query.f (B (Uri.canon (prs ps))) = some ((ord (prs ps)).map toS, 0) := by
    unfold uri_Query.f
    have h1 := canon_len ps hI hl
    rw [if_pos (show (B (Uri.canon (prs ps))).size ≤ _ from h1)]
    have h2 := query_canon ps hI hn hl
    exact congrArg some h2
  rw [stelelaw04_UriSorts.j2, if_pos (by omega), if_pos (by omega), if_pos (by omega), if_pos (by omega), rd37 ps i hi, rd37 ps j hj, Int.toNat_natCast, Int.toNat_natCast]
  rw [canon_f ps 0 (by omega) hI.sz, Option.bind_some, hq, Option.bind_some, if_pos rfl]
  have hlen : ((ord (prs ps)).map toS).length = ps.length := hos.length_eq
  rw [if_pos (by rw [hlen])]
  show ((uri_Canon.f ((ps.set i ps[j]).set j ps[i])).bind _) = _
  rw [canon_f _ 0 (by rw [hw.length_eq]; omega) (hsz hw), Option.bind_some, canon_perm (prs_perm hw), if_pos rfl]
  rw [canon_f _ 0 (by rw [hlen]; omega) (hsz hos), Option.bind_some, canon_perm (prs_perm hos)]
  rw [show ((B (Uri.canon (prs ps))).toList != (B (Uri.canon (prs ps))).toList) = false from bne_self_eq_false _]
  rw [stelelaw04_UriSorts.j3, if_neg (by simp)]
  have hnd : (((ord (prs ps)).map toS).map nm).Nodup := (hos.map nm).nodup_iff.2 hI.nd
  exact law_l0 ps _ (by omega) (by rw [hlen]; omega) (fun x hx => find_in _ hnd x (hos.mem_iff.2 hx)) ps.length k 0 rfl (Nat.zero_le _) (by omega)
theorem law_j1 (ps : List S37) (hI : Inv 20000 ps) (hl : ps.length ≤ 24) (hn : ps ≠ []) (k : Nat) (a b : Int) (hk : 41 ≤ k) :
    stelelaw04_UriSorts.j0 (k + 1) a b ps false = some true := by
  obtain ⟨k, rfl⟩ : ∃ m, k = m + 1 := ⟨k - 1, by omega⟩
  have h0 : 0 < ps.length := List.length_pos_iff.2 hn
  obtain ⟨i, hi, ei⟩ := idx_bound a ps.length h0 hl
  obtain ⟨j, hj, ej⟩ := idx_bound b ps.length h0 hl
  have hend : ∀ i' : Int, i' = i → stelelaw04_UriSorts.j1 (k + 1) ps ps i' (Int.tmod b (ps.length : Int)) = some true := by
    rintro _ rfl
    rw [stelelaw04_UriSorts.j1]
    by_cases hb : Int.tmod b (ps.length : Int) < 0
    · rw [if_pos hb] at ej ⊢
      rw [ej]
      exact law_j2 ps hI hl hn k i j (by omega) hi hj
    · rw [if_neg hb] at ej ⊢
      rw [ej]
      exact law_j2 ps hI hl hn k i j (by omega) hi hj
  rw [stelelaw04_UriSorts.j0, if_neg (by simp), Option.bind_some]
  show (if 0 + ps.length < 4398046511104 then _ else _) = _
  rw [if_pos (by omega), Option.bind_some, if_neg (by omega)]
  show (if Int.tmod a (ps.length : Int) < 0 then stelelaw04_UriSorts.j1 (k + 1) ps ps _ _ else stelelaw04_UriSorts.j1 (k + 1) ps ps _ _) = _
  by_cases ha : Int.tmod a (ps.length : Int) < 0
  · rw [if_pos ha] at ei ⊢
    exact hend _ ei
  · rw [if_neg ha] at ei ⊢
    exact hend _ ei
theorem UriSorts : stelelaw04_UriSorts.Pure := by
  intro a0 a1 a2 h0 h1 h2
  refine ⟨1000, ?_⟩
  unfold stelelaw04_UriSorts.f
  have hlt : stelelaw04_light.f 1000 [a0] = some (decide (a0.size ≤ 20000)) := by
    unfold stelelaw04_light.f
    have e1 : wrap64 (0 + ((rdOf ByteArray.empty [a0] 0).size : Int)) = (a0.size : Int) := by
      show wrap64 (0 + (a0.size : Int)) = _
      unfold wrap64
      omega
    rw [show (1000 : Nat) = 998 + 1 + 1 from rfl, stelelaw04_light.l0, if_pos (by simp), if_pos (by simp), e1, show wrap64 (0 + 1) = 1 by unfold wrap64; omega, stelelaw04_light.l0, if_neg (by simp)]
    simp
    omega
  rw [hlt, Option.bind_some]
  by_cases hs : a0.size ≤ 20000
  · rw [if_pos (by simpa using hs)]
    have hq : uri_Query.f a0 = some (resQ a0.data.toList) := by unfold uri_Query.f; rw [if_pos (by omega)]
    rw [hq, Option.bind_some]
    have hinv := fun h => resQ_inv (s := a0.data.toList) h (by rw [← Lib.size_eq]; exact hs)
    generalize resQ a0.data.toList = R at *
    obtain ⟨ps, e⟩ := R
    show (if e = 0 then stelelaw04_UriSorts.j0 1000 a1 a2 ps ((ps.length : Int) == 0) else stelelaw04_UriSorts.j0 1000 a1 a2 ps true) = _
    by_cases he : e = 0
    · rw [if_pos he]
      by_cases hn : ps = []
      · subst hn
        rw [show (1000 : Nat) = 999 + 1 from rfl, stelelaw04_UriSorts.j0]
        rfl
      · obtain ⟨hI, hl⟩ := hinv he
        rw [show ((ps.length : Int) == 0) = false from beq_eq_false_iff_ne.2 (by have := List.length_pos_iff.2 hn; omega)]
        exact law_j1 ps hI hl hn 999 a1 a2 (by omega)
    · rw [if_neg he, show (1000 : Nat) = 999 + 1 from rfl, stelelaw04_UriSorts.j0, if_pos rfl]
      rfl
  · rw [if_neg (by simpa using hs)]
    rfl
#print axioms UriSorts
end Go.Proofs.YtdfkinkihkgdbaaDoor.Pure
