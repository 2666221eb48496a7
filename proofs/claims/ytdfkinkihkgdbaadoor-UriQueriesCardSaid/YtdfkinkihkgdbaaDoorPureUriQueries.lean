/- The plain law of UriQueries: what its printed functions compute, in lists and numbers: it is true whatever the input. -/
import Derived.Test.YtdfkinkihkgdbaaDoorPUqx4
namespace Go.Proofs.YtdfkinkihkgdbaaDoor.Pure
open Go.RowKit Go.Proofs.YtdfkinkihkgdbaaDoor.PUq Go.Proofs.YtdfkinkihkgdbaaDoorW.PrintWords Go.Proofs.YtdfkinkihkgdbaaDoorW.PrintLast
set_option linter.unusedVariables false
abbrev B (l : List UInt8) : ByteArray := ⟨l.toArray⟩
theorem szB (l : List UInt8) : (B l).size = l.length := rfl
theorem btB (l : List UInt8) (i : Nat) (h : i < l.length) : bt (B l) (i : Int) = ((l[i]).toNat : Int) := by
  unfold bt
  have h2 : (i : Int).toNat < (B l).size := by rw [Int.toNat_natCast]; exact h
  rw [dif_pos h2]
  rfl
theorem w1 (i : Nat) (h : i < 1000000) : wrap64 ((i : Int) + 1) = ((i + 1 : Nat) : Int) := by unfold wrap64; omega
theorem w2 (i : Nat) (h : i < 1000000) : wrap64 ((i : Int) + 2) = ((i + 2 : Nat) : Int) := by unfold wrap64; omega
theorem extB (l : List UInt8) (a b : Nat) : (B l).extract a b = B ((l.drop a).take (b - a)) := ext_list l a b
theorem u8_nat (a b : UInt8) : ((a.toNat : Int) = (b.toNat : Int)) ↔ a = b := by
  constructor
  · intro h; exact UInt8.toNat_inj.1 (by omega)
  · intro h; rw [h]
theorem first_l0 (l : List UInt8) (c : UInt8) (hl : l.length ≤ 20000) : ∀ (d k i : Nat), d = l.length - i → i ≤ l.length → d < k →
    steleref04_first.l0 k (B l) (c.toNat : Int) (i : Int) = some (B (l.take i ++ (Uri.cut1 c (l.drop i)).1), B (Uri.cut1 c (l.drop i)).2.1)
  | d, k, i, hd, hi, hk => by
    obtain ⟨k, rfl⟩ : ∃ m, k = m + 1 := ⟨k - 1, by omega⟩
    rw [steleref04_first.l0, szB]
    cases d with
    | zero =>
      rw [if_neg (by omega), List.take_of_length_le (by omega), List.drop_eq_nil_of_le (by omega)]
      simp [Uri.cut1]
    | succ d =>
      have hlt : i < l.length := by omega
      rw [if_pos (by omega), if_pos (by omega), btB l i hlt, List.drop_eq_getElem_cons hlt, Uri.cut1]
      by_cases hc : l[i] = c
      · rw [if_pos ((u8_nat _ _).2 hc), if_pos hc, if_pos (by omega), w1 i (by omega), if_pos (by omega), if_pos (by omega), Int.toNat_natCast, Int.toNat_natCast, extB, extB]
        simp
        rw [List.take_of_length_le (by simp)]
      · rw [if_neg (fun h => hc ((u8_nat _ _).1 h)), if_neg hc, w1 i (by omega), first_l0 l c hl d k (i + 1) (by omega) (by omega) (by omega), List.take_succ_eq_append_getElem hlt, List.append_assoc]
        rfl
theorem first_f (l : List UInt8) (c : UInt8) (hl : l.length ≤ 20000) (k : Nat) (hk : l.length < k) : steleref04_first.f k (B l) (c.toNat : Int) = some (B (Uri.cut1 c l).1, B (Uri.cut1 c l).2.1) := by
  have := first_l0 l c hl l.length k 0 rfl (Nat.zero_le _) hk
  simpa [steleref04_first.f] using this
def dg (x : Int) : Int := if x ≥ 48 then (if x ≤ 57 then (x - 48) % 256 else if x ≥ 97 then (if x ≤ 102 then ((x - 97) % 256) + 10 else if x ≥ 65 then (if x ≤ 70 then ((x - 65) % 256) + 10 else 16) else 16) else (if x ≥ 65 then (if x ≤ 70 then ((x - 65) % 256) + 10 else 16) else 16)) else (if x ≥ 97 then 99 else 16)
theorem dg_hex : ∀ c : Fin 256, dg (c.val : Int) = ((Uri.hexV (UInt8.ofNat c.val)).toNat : Int) := by decide +kernel
theorem digit_f (c : UInt8) (k : Nat) (hk : 3 ≤ k) : steleref04_digit.f k (c.toNat : Int) = some ((Uri.hexV c).toNat : Int) := by
  obtain ⟨m, rfl⟩ : ∃ m, k = m + 3 := ⟨k - 3, by omega⟩
  have h1 := dg_hex ⟨c.toNat, c.toNat_lt⟩
  have h2 : UInt8.ofNat c.toNat = c := UInt8.ofNat_toNat
  simp only [h2] at h1
  rw [← h1]
  generalize (c.toNat : Int) = x
  unfold steleref04_digit.f dg
  simp only [steleref04_digit.j0, steleref04_digit.j1, decide_eq_true_eq, Bool.false_eq_true, if_false]
  split <;> split <;> (try split) <;> (try split) <;> (try split) <;> (try split) <;> first | rfl | omega | (exfalso; omega)
theorem strB (o : List UInt8) : strOfNums (o.map fun x => (x.toNat : Int)) = B o := by
  unfold strOfNums
  rw [List.map_map]
  congr 2
  rw [show ((fun n : Int => UInt8.ofNat n.toNat) ∘ fun x : UInt8 => (x.toNat : Int)) = id from funext fun x => by simp, List.map_id]
theorem hs1 (x : Nat) (q1 : x < 256) : wrap64 ((x : Int) * 16) = (x : Int) * 16 := by unfold wrap64; omega
theorem hs2 (x y : Nat) (q1 : x < 256) (q2 : y < 256) : wrap64 ((x : Int) * 16 + (y : Int)) = (x : Int) * 16 + (y : Int) := by unfold wrap64; omega
theorem hs3 (x y : Nat) (q1 : x < 256) (q2 : y < 256) : ((x : Int) * 16 + (y : Int)) % 256 = ((((x * 16) % 256 + y) % 256 : Nat) : Int) := by omega
theorem hex_sum (x y : Nat) (q1 : x < 2 ^ 8) (q2 : y < 2 ^ 8) : (wrap64 (wrap64 ((x : Int) * 16) + (y : Int))) % 256 = ((((x * (16 : UInt8).toNat) % 2 ^ 8 + y) % 2 ^ 8 : Nat) : Int) := by
  rw [hs1 x q1, hs2 x y q1 q2]
  exact hs3 x y q1 q2
theorem dec_j1 (l : List UInt8) (hl : l.length ≤ 20000) (k i : Nat) (o : List UInt8) (hk : 3 ≤ k) (ho : o.length ≤ i) (ha : i + 1 < l.length) (hb : i + 2 < l.length) :
    steleref04_Decode.j1 (k + 1) (B l) (o.map fun x => (x.toNat : Int)) (i : Int) false = steleref04_Decode.l0 k (B l) ((o ++ [Uri.hexV l[i + 1] * 16 + Uri.hexV l[i + 2]]).map fun x => (x.toNat : Int)) ((i + 2 + 1 : Nat) : Int) := by
  rw [steleref04_Decode.j1, szB, if_neg (by simp), w1 i (by omega), if_pos (by omega), if_pos (by omega), btB l (i + 1) ha, digit_f _ _ hk]
  rw [Option.bind_some]
  rw [w2 i (by omega), if_pos (by omega), if_pos (by omega), btB l (i + 2) hb, digit_f _ _ hk]
  rw [Option.bind_some]
  rw [if_pos (by rw [List.length_map]; omega), w1 (i + 2) (by omega), List.map_append]
  congr 2
  rw [List.map_cons, List.map_nil, UInt8.toNat_add, UInt8.toNat_mul]
  rw [hex_sum _ _ (Uri.hexV l[i + 1]).toNat_lt (Uri.hexV l[i + 2]).toNat_lt]
theorem dec_l0 (l : List UInt8) (hl : l.length ≤ 20000) : ∀ (n d k i : Nat) (o : List UInt8), d ≤ n → d = l.length - i → i ≤ l.length → 3 * d + 5 < k → o.length ≤ i →
    steleref04_Decode.l0 k (B l) (o.map fun x => (x.toNat : Int)) (i : Int) = some (match Uri.dec (l.drop i) with | some r => (B (o ++ r), 0) | none => (B [], 13))
  | n, d, k, i, o, hn, hd, hi, hk, ho => by
    obtain ⟨k, rfl⟩ : ∃ m, k = m + 1 := ⟨k - 1, by omega⟩
    rw [steleref04_Decode.l0, szB]
    cases d with
    | zero =>
      rw [if_neg (by omega), List.drop_eq_nil_of_le (by omega), Uri.dec_nil, strB]
      simp
    | succ d =>
      obtain ⟨n, rfl⟩ : ∃ m, n = m + 1 := ⟨n - 1, by omega⟩
      have hlt : i < l.length := by omega
      rw [if_pos (by omega), if_pos (by omega), btB l i hlt, List.drop_eq_getElem_cons hlt]
      by_cases hc : l[i] = 37
      · rw [hc, show ((UInt8.toNat 37 : Nat) : Int) = 37 from rfl, if_pos rfl]
        have hw : wrap64 ((l.length : Int) - (i : Int)) = ((l.length - i : Nat) : Int) := by unfold wrap64; omega
        rw [hw]
        clear hw
        obtain ⟨k, rfl⟩ : ∃ m, k = m + 1 := ⟨k - 1, by omega⟩
        by_cases h3 : l.length - i < 3
        · rw [if_pos (by omega), Uri.dec_short _ (by simp; omega), steleref04_Decode.j1, if_pos rfl]
        · have ha : i + 1 < l.length := by omega
          have hb : i + 2 < l.length := by omega
          rw [if_neg (by omega), w1 i (by omega), w2 i (by omega), if_pos (by omega), if_pos (by omega), btB l (i + 1) ha, digit_f _ _ (by omega)]
          rw [List.drop_eq_getElem_cons ha, List.drop_eq_getElem_cons hb, Uri.dec_pct]
          rw [Option.bind_some]
          have hA : (((Uri.hexV l[i + 1]).toNat : Int) > 15) ↔ ¬ (Uri.hexV l[i + 1] < 16) := by rw [UInt8.lt_iff_toNat_lt]; simp; omega
          have hB : (((Uri.hexV l[i + 2]).toNat : Int) > 15) ↔ ¬ (Uri.hexV l[i + 2] < 16) := by rw [UInt8.lt_iff_toNat_lt]; simp; omega
          by_cases h1 : Uri.hexV l[i + 1] < 16
          · rw [if_neg (fun h => hA.1 h h1), if_pos (by omega), if_pos (by omega), btB l (i + 2) hb, digit_f _ _ (by omega)]
            rw [Option.bind_some]
            by_cases h2 : Uri.hexV l[i + 2] < 16
            · have hd : decide (((Uri.hexV l[i + 2]).toNat : Int) > 15) = false := decide_eq_false (fun h => hB.1 h h2)
              rw [hd, dec_j1 l hl k i o (by omega) ho ha hb, if_pos (by simp [h1, h2])]
              clear hd hA hB
              obtain ⟨d, rfl⟩ : ∃ m, d = m + 2 := ⟨d - 2, by omega⟩
              rw [dec_l0 l hl n d k (i + 2 + 1) _ (by omega) (by omega) (by omega) (by omega) (by simp; omega)]
              cases Uri.dec (List.drop (i + 2 + 1) l) <;> simp
            · have hd : decide (((Uri.hexV l[i + 2]).toNat : Int) > 15) = true := decide_eq_true (hB.2 h2)
              rw [hd, steleref04_Decode.j1, if_pos rfl, if_neg (by simp [h2])]
          · rw [if_pos (hA.2 h1), steleref04_Decode.j1, if_pos rfl, if_neg (by simp [h1])]
      · rw [if_neg (by intro h; exact hc ((u8_nat _ 37).1 h)), if_pos (by simp; omega), w1 i (by omega), Uri.dec_plain hc]
        have he : (o.map fun x => (x.toNat : Int)) ++ [(l[i].toNat : Int)] = ((o ++ [l[i]]).map fun x => (x.toNat : Int)) := by simp
        rw [he, dec_l0 l hl n d k (i + 1) _ (by omega) (by omega) (by omega) (by omega) (by simp; omega)]
        cases Uri.dec (List.drop (i + 1) l) <;> simp
theorem dec_f (l : List UInt8) (hl : l.length ≤ 20000) (k : Nat) (hk : 3 * l.length + 5 < k) : steleref04_Decode.f k (B l) = some (B (decR l).1, (decR l).2) := by
  have := dec_l0 l hl l.length l.length k 0 [] (Nat.le_refl _) rfl (Nat.zero_le _) hk (Nat.le_refl _)
  unfold steleref04_Decode.f
  rw [show ((0 : Nat) : Int) = 0 from rfl] at this
  simp only [List.map_nil, List.drop_zero, List.nil_append] at this
  rw [this]
  unfold decR
  cases Uri.dec l <;> rfl
def to55 (x : S37) : S55 := ⟨x.f0, x.f1⟩
theorem rd55 (l : List S37) (i : Nat) (h : i < l.length) : rd_T55 (l.map to55) (i : Int) = to55 l[i] := by
  unfold rd_T55
  rw [Int.toNat_natCast, List.getD_eq_getElem?_getD, List.getElem?_map, List.getElem?_eq_getElem h]
  rfl
theorem rd37 (l : List S37) (i : Nat) (h : i < l.length) : rd_T37 l (i : Int) = l[i] := by
  unfold rd_T37
  rw [Int.toNat_natCast, List.getD_eq_getElem?_getD, List.getElem?_eq_getElem h]
  rfl
theorem find_l0 (l : List S37) (a1 : ByteArray) (hl : l.length ≤ 1000) : ∀ (d k i : Nat), d = l.length - i → i ≤ l.length → d < k →
    steleref04_Find.l0 k (l.map to55) a1 (i : Int) = some (findP (l.drop i) a1)
  | d, k, i, hd, hi, hk => by
    obtain ⟨k, rfl⟩ : ∃ m, k = m + 1 := ⟨k - 1, by omega⟩
    rw [steleref04_Find.l0, List.length_map]
    cases d with
    | zero =>
      rw [if_neg (by omega), List.drop_eq_nil_of_le (by omega)]
      rfl
    | succ d =>
      have hlt : i < l.length := by omega
      rw [if_pos (by omega), if_pos (by omega), rd55 l i hlt, List.drop_eq_getElem_cons hlt, w1 i (by omega), find_l0 l a1 hl d k (i + 1) (by omega) (by omega) (by omega)]
      unfold findP
      rw [List.find?_cons]
      by_cases hc : l[i].f0.toList = a1.toList
      · rw [if_pos (show (to55 l[i]).f0.toList = a1.toList from hc), show (l[i].f0.toList == a1.toList) = true from beq_iff_eq.2 hc]
        rfl
      · rw [if_neg (show ¬ (to55 l[i]).f0.toList = a1.toList from hc), show (l[i].f0.toList == a1.toList) = false from beq_eq_false_iff_ne.2 hc]
theorem find_f (l : List S37) (a1 : ByteArray) (hl : l.length ≤ 1000) (k : Nat) (hk : l.length < k) : steleref04_Find.f k (l.map to55) a1 = some (findP l a1) :=
  find_l0 l a1 hl l.length k 0 rfl (Nat.zero_le _) hk
theorem same_l0 (l : List S37) (hl : l.length ≤ 1000) : ∀ (d k i : Nat), d = l.length - i → i ≤ l.length → d < k →
    stelelaw04_same.l0 k l (l.map to55) (i : Int) = some true
  | d, k, i, hd, hi, hk => by
    obtain ⟨k, rfl⟩ : ∃ m, k = m + 1 := ⟨k - 1, by omega⟩
    rw [stelelaw04_same.l0, List.length_map]
    cases d with
    | zero => rw [if_neg (by omega)]
    | succ d =>
      have hlt : i < l.length := by omega
      rw [if_pos (by omega), if_pos (by omega), if_pos (by omega), rd55 l i hlt, rd37 l i hlt, if_pos (show l[i].f0.toList = (to55 l[i]).f0.toList from rfl), if_pos (show l[i].f1.toList = (to55 l[i]).f1.toList from rfl), w1 i (by omega), same_l0 l hl d k (i + 1) (by omega) (by omega) (by omega)]
theorem same_f (l : List S37) (hl : l.length ≤ 1000) (k : Nat) (hk : l.length < k) : stelelaw04_same.f k l (l.map to55) = some true := by
  unfold stelelaw04_same.f
  rw [List.length_map, if_pos rfl]
  exact same_l0 l hl l.length k 0 rfl (Nat.zero_le _) hk
/-- What stands ahead of the next sign goes to the first of the parts. -/
def gl (h : List UInt8) : List (List UInt8) → List (List UInt8)
  | [] => [h]
  | x :: r => (h ++ x) :: r
theorem parts_ne (c : UInt8) : ∀ l, ∃ x r, parts c l = x :: r
  | [] => ⟨[], [], rfl⟩
  | x :: t => by
    rw [parts_cons]
    obtain ⟨y, r, h⟩ := parts_ne c t
    split
    · exact ⟨_, _, rfl⟩
    · rw [h]; exact ⟨_, _, rfl⟩
theorem gl_nil (c : UInt8) (l : List UInt8) : gl [] (parts c l) = parts c l := by
  obtain ⟨x, r, h⟩ := parts_ne c l
  rw [h]; rfl
theorem last_B (p : List (List UInt8)) (h : List UInt8) : rdOf ByteArray.empty (p.map B ++ [B h]) ((p.length : Nat) : Int) = B h := by
  unfold rdOf
  rw [Int.toNat_natCast, List.getD_eq_getElem?_getD, List.getElem?_append_right (by simp)]
  simp
theorem appB (h m : List UInt8) : B h ++ B m = B (h ++ m) := by
  apply ByteArray.ext
  simp
theorem set_last {α : Type} (xs : List α) (a b : α) : (xs ++ [a]).set xs.length b = xs ++ [b] := by simp [List.set_append]
theorem cut_l0 (l : List UInt8) (c : UInt8) (hl : l.length ≤ 20000) : ∀ (d k i : Nat) (p : List (List UInt8)) (h : List UInt8), d = l.length - i → i ≤ l.length → d < k → p.length ≤ i → h.length ≤ i →
    steleref04_Cut.l0 k (B l) (c.toNat : Int) (p.map B ++ [B h]) (i : Int) = some ((p ++ gl h (parts c (l.drop i))).map B)
  | d, k, i, p, h, hd, hi, hk, hp, hh => by
    obtain ⟨k, rfl⟩ : ∃ m, k = m + 1 := ⟨k - 1, by omega⟩
    rw [steleref04_Cut.l0, szB]
    cases d with
    | zero =>
      rw [if_neg (by omega), List.drop_eq_nil_of_le (by omega)]
      simp [parts, gl]
    | succ d =>
      have hlt : i < l.length := by omega
      have hlen : (p.map B ++ [B h]).length = p.length + 1 := by simp
      rw [if_pos (by omega), if_pos (by omega), btB l i hlt, List.drop_eq_getElem_cons hlt, parts_cons, hlen]
      by_cases hc : l[i] = c
      · rw [if_pos ((u8_nat _ _).2 hc), if_pos hc, if_pos (by omega), w1 i (by omega)]
        have he : p.map B ++ [B h] ++ [(⟨#[]⟩ : ByteArray)] = (p ++ [h]).map B ++ [B []] := by simp
        rw [he, cut_l0 l c hl d k (i + 1) (p ++ [h]) [] (by omega) (by omega) (by omega) (by simp; omega) (by simp), gl_nil]
        simp [gl]
      · rw [if_neg (fun q => hc ((u8_nat _ _).1 q)), if_neg hc]
        have hw : wrap64 (((p.length + 1 : Nat) : Int) - 1) = ((p.length : Nat) : Int) := by unfold wrap64; omega
        rw [hw, w1 i (by omega)]
        clear hw
        have hx : (B l).extract i (i + 1) = B [l[i]] := by
          rw [extB]
          congr 2
          rw [Nat.add_sub_cancel_left, List.drop_eq_getElem_cons hlt, List.take_succ_cons, List.take_zero]
        rw [Int.toNat_natCast, Int.toNat_natCast, Int.toNat_natCast, hx, last_B, if_pos (by omega), if_pos (by omega), if_pos (by omega), if_pos (by omega), if_pos (by rw [szB, szB]; simp; omega)]
        have he : (p.map B ++ [B h]).set p.length (B h ++ B [l[i]]) = p.map B ++ [B (h ++ [l[i]])] := by
          rw [appB]
          have := set_last (p.map B) (B h) (B (h ++ [l[i]]))
          rw [List.length_map] at this
          exact this
        rw [he, cut_l0 l c hl d k (i + 1) p (h ++ [l[i]]) (by omega) (by omega) (by omega) (by omega) (by simp; omega)]
        obtain ⟨x, r, hr⟩ := parts_ne c (l.drop (i + 1))
        rw [hr]
        simp [gl]
theorem cut_f (l : List UInt8) (c : UInt8) (hl : l.length ≤ 20000) (k : Nat) (hk : l.length < k) : steleref04_Cut.f k (B l) (c.toNat : Int) = some ((parts c l).map B) := by
  have := cut_l0 l c hl l.length k 0 [] [] rfl (Nat.zero_le _) hk (Nat.le_refl _) (Nat.le_refl _)
  rw [List.drop_zero, gl_nil] at this
  exact this
def G (acc : List S37) (rest : List (List UInt8)) : Option (List S37) := rest.foldl (fun o x => o.bind (fun acc => stepQ acc x)) (some acc)
theorem G_cons (acc : List S37) (x : List UInt8) (rest : List (List UInt8)) : G acc (x :: rest) = (stepQ acc x).bind fun a => G a rest := by
  show List.foldl _ (stepQ acc x) rest = _
  cases h : stepQ acc x with
  | none => exact runQ_stuck rest
  | some a => rfl
def out2 : Option (List S37) → List S55 × Int
  | some ps => (ps.map to55, 0)
  | none => ([], 13)
theorem beqB (n : List UInt8) : ((B n).toList == ([] : List UInt8)) = (n == []) := by
  have : (B n).toList = n := by
    rw [ByteArray.toList_eq]
  rw [this]
theorem query_l0 (ps : List (List UInt8)) (hp : ps.length ≤ 24) (hL : ∀ x ∈ ps, x.length ≤ 20000) : ∀ (d k i : Nat) (acc : List S37), d = ps.length - i → i ≤ ps.length → 70000 + 2 * d < k → acc.length = i →
    steleref04_Query.l0 k (ps.map B) (acc.map to55) (i : Int) = some (out2 (G acc (ps.drop i)))
  | d, k, i, acc, hd, hi, hk, ha => by
    obtain ⟨k, rfl⟩ : ∃ m, k = m + 1 := ⟨k - 1, by omega⟩
    rw [steleref04_Query.l0, List.length_map]
    cases d with
    | zero =>
      rw [if_neg (by omega), List.drop_eq_nil_of_le (by omega)]
      rfl
    | succ d =>
      have hlt : i < ps.length := by omega
      rw [if_pos (by omega), if_pos (by omega), List.drop_eq_getElem_cons hlt, G_cons]
      have hx : rdOf ByteArray.empty (ps.map B) (i : Int) = B ps[i] := by
        unfold rdOf
        rw [Int.toNat_natCast, List.getD_eq_getElem?_getD, List.getElem?_map, List.getElem?_eq_getElem hlt]
        rfl
      have hxl := hL ps[i] (List.getElem_mem hlt)
      rw [hx]
      clear hx
      have hcl := cut1_le 61 ps[i]
      have hf := first_f ps[i] 61 hxl k (by omega)
      rw [show ((UInt8.toNat 61 : Nat) : Int) = 61 from rfl] at hf
      rw [hf]
      clear hf
      rw [Option.bind_some, dec_f _ (by omega) k (by omega), Option.bind_some, dec_f _ (by omega) k (by omega), Option.bind_some]
      show (if (decR (Uri.cut1 61 ps[i]).1).2 = 0 then (if (decR (Uri.cut1 61 ps[i]).2.1).2 = 0 then steleref04_Query.j1 k (ps.map B) (acc.map to55) (i : Int) (B (decR (Uri.cut1 61 ps[i]).1).1) (B (decR (Uri.cut1 61 ps[i]).2.1).1) ((B (decR (Uri.cut1 61 ps[i]).1).1).toList == []) else steleref04_Query.j1 k (ps.map B) (acc.map to55) (i : Int) (B (decR (Uri.cut1 61 ps[i]).1).1) (B (decR (Uri.cut1 61 ps[i]).2.1).1) true) else steleref04_Query.j1 k (ps.map B) (acc.map to55) (i : Int) (B (decR (Uri.cut1 61 ps[i]).1).1) (B (decR (Uri.cut1 61 ps[i]).2.1).1) true) = _
      rw [beqB]
      unfold stepQ badQ
      generalize decR (Uri.cut1 61 ps[i]).1 = A
      generalize decR (Uri.cut1 61 ps[i]).2.1 = C
      obtain ⟨n, e1⟩ := A
      obtain ⟨v, e2⟩ := C
      obtain ⟨k, rfl⟩ : ∃ m, k = m + 1 := ⟨k - 1, by omega⟩
      by_cases h1 : e1 = 0
      · by_cases h2 : e2 = 0
        · rw [if_pos h1, if_pos h2]
          rw [show (orZ [e1, e2] != 0) = false by rw [h1, h2]; rfl]
          show steleref04_Query.j1 (k + 1) (ps.map B) (acc.map to55) (i : Int) (B n) (B v) (n == []) = _
          have h24 : (acc.length == 24) = false := by rw [beq_eq_false_iff_ne]; omega
          rw [h24, steleref04_Query.j1, find_f acc (B n) (by omega) k (by omega), Option.bind_some]
          show (if (n == []) = true then _ else (if (findP acc (B n)).2 = true then _ else _)) = some (out2 ((if (false || (n == []) || (findP acc (B n)).2 || false) = true then none else some (acc ++ [⟨B n, B v⟩])).bind _))
          cases hn : (n == []) with
          | true => rfl
          | false =>
            cases ht : (findP acc (B n)).2 with
            | true => rfl
            | false =>
              rw [if_neg (by simp), if_neg (by simp), if_pos (by simp; omega), w1 i (by omega)]
              have := query_l0 ps hp hL d k (i + 1) (acc ++ [⟨B n, B v⟩]) (by omega) (by omega) (by omega) (by simp; omega)
              rw [List.map_append] at this
              exact this
        · rw [if_pos h1, if_neg h2, show (orZ [e1, e2] != 0) = true by rw [h1]; simp [orZ, h2], steleref04_Query.j1]
          rfl
      · rw [if_neg h1, show (orZ [e1, e2] != 0) = true by simp [orZ, h1], steleref04_Query.j1]
        rfl
theorem stepQ_one {acc ps : List S37} {x : List UInt8} (h : stepQ acc x = some ps) : ps.length = acc.length + 1 := by
  unfold stepQ at h
  split at h
  · cases h
  · cases h; simp
theorem G_len : ∀ (l : List (List UInt8)) (acc ps : List S37), G acc l = some ps → ps.length = acc.length + l.length
  | [], acc, ps, h => by cases h; simp
  | x :: t, acc, ps, h => by
    rw [G_cons] at h
    cases hq : stepQ acc x with
    | none => rw [hq] at h; cases h
    | some a =>
      rw [hq] at h
      have := G_len t a ps h
      rw [this, stepQ_one hq]
      simp
      omega
theorem parts_len (c : UInt8) : ∀ (l : List UInt8) (x : List UInt8), x ∈ parts c l → x.length ≤ l.length
  | [], x, h => by simp [parts] at h; subst h; simp
  | y :: t, x, h => by
    rw [parts_cons] at h
    split at h
    · rcases List.mem_cons.1 h with rfl | h
      · simp
      · have := parts_len c t x h; simp; omega
    · obtain ⟨a, r, hr⟩ := parts_ne c t
      rw [hr] at h
      have hm := parts_len c t
      rw [hr] at hm
      rcases List.mem_cons.1 h with rfl | h
      · have := hm a (List.mem_cons_self ..); simp; omega
      · have := hm x (List.mem_cons_of_mem _ h); simp; omega
theorem query_f (l : List UInt8) (hl : l.length ≤ 20000) (k : Nat) (hk : 80000 < k) : steleref04_Query.f k (B l) = some ((resQ l).1.map to55, (resQ l).2) := by
  unfold steleref04_Query.f
  have hL : (B l).toList = l := by rw [ByteArray.toList_eq]
  rw [hL]
  unfold resQ
  by_cases h0 : l = []
  · rw [if_pos h0, if_pos h0]; rfl
  · rw [if_neg h0, if_neg h0]
    have hc := cut_f l 38 hl k (by omega)
    rw [show ((UInt8.toNat 38 : Nat) : Int) = 38 from rfl] at hc
    rw [hc, Option.bind_some, List.length_map]
    by_cases h24 : ((parts 38 l).length : Int) > 24
    · rw [if_pos h24]
      have hr : runQ (parts 38 l) = none := by
        cases hq : runQ (parts 38 l) with
        | none => rfl
        | some ps =>
          have h1 := G_len _ _ _ hq
          have h2 := runQ_len hq
          simp at h1
          omega
      rw [hr]
      rfl
    · rw [if_neg h24]
      have := query_l0 (parts 38 l) (by omega) (fun x hx => Nat.le_trans (parts_len 38 l x hx) hl) _ k 0 [] rfl (Nat.zero_le _) (by omega) rfl
      rw [List.drop_zero] at this
      refine this.trans ?_
      show some (out2 (runQ (parts 38 l))) = _
      cases runQ (parts 38 l) <;> rfl
theorem resQ_len (l : List UInt8) : (resQ l).1.length ≤ 24 := by
  unfold resQ
  split
  · simp
  · split
    · rename_i h; exact runQ_len h
    · simp
theorem UriQueries : stelelaw04_UriQueries.Pure := by
  intro a0 a1 h0 h1
  refine ⟨100000, ?_⟩
  unfold stelelaw04_UriQueries.f
  have hlt : stelelaw04_light.f 100000 [a0] = some (decide (a0.size ≤ 20000)) := by
    unfold stelelaw04_light.f
    have e1 : wrap64 (0 + ((rdOf ByteArray.empty [a0] 0).size : Int)) = (a0.size : Int) := by
      show wrap64 (0 + (a0.size : Int)) = _
      unfold wrap64
      omega
    rw [show (100000 : Nat) = 99998 + 1 + 1 from rfl, stelelaw04_light.l0, if_pos (by simp), if_pos (by simp), e1, show wrap64 (0 + 1) = 1 by unfold wrap64; omega, stelelaw04_light.l0, if_neg (by simp)]
    simp
    omega
  rw [hlt, Option.bind_some]
  by_cases hs : a0.size ≤ 20000
  · rw [if_pos (by simpa using hs)]
    have hq : uri_Query.f a0 = some (resQ a0.data.toList) := by unfold uri_Query.f; rw [if_pos (by omega)]
    have hb : B a0.data.toList = a0 := Lib.mk_data a0
    have hr := query_f a0.data.toList (by rw [← Lib.size_eq]; exact hs) 100000 (by omega)
    rw [hb] at hr
    have hlen := resQ_len a0.data.toList
    rw [hq, Option.bind_some, hr, Option.bind_some]
    generalize resQ a0.data.toList = R at *
    have hf : uri_Find.f R.1 a1 = some (findP R.1 a1) := by unfold uri_Find.f; rw [if_pos (by omega)]
    rw [hf, Option.bind_some]
    show ((steleref04_Find.f 100000 (R.1.map to55) a1).bind _) = _
    rw [find_f R.1 a1 (by omega) 100000 (by omega), Option.bind_some]
    show ((stelelaw04_same.f 100000 R.1 (R.1.map to55)).bind _) = _
    rw [same_f R.1 (by omega) 100000 (by omega), Option.bind_some, if_pos rfl, if_pos rfl, if_pos rfl, if_pos (by simp)]
    rfl
  · rw [if_neg (by simpa using hs)]
    rfl
end Go.Proofs.YtdfkinkihkgdbaaDoor.Pure
