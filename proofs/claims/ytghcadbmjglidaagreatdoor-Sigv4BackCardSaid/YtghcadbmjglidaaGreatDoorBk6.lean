/- Texts of this proof, laid together: SgF, SgG, SgH, SgI, PSgx14, SgJ, OwnH, SgK, SgArg. -/
import Derived.Deep.Slices
import Derived.ChangeSame
import Derived.ChangeSlices
import Derived.ChangeMaps5
import Derived.SizedLaws
import Derived.Lib.SmallJoins
import Derived.Test.YtghcadbmjglidaaGreatDoorBk5
set_option linter.unusedVariables false
set_option linter.unusedSimpArgs false
section
set_option linter.unusedVariables false
namespace Go.Proofs.YtghcadbmjglidaaGreatDoor.Sp
open Go.RowKit Go.Proofs.YtghcadbmjglidaaGreatDoor.PSg Go.Proofs.YtghcadbmjglidaaGreatDoorW.PrintWords Go.Proofs.YtghcadbmjglidaaGreatDoorW.PrintLast
theorem two_pr (x : Int) (h0 : 0 ≤ x) (h1 : x < 100) : twoZ (pr1 x) (pr2 x) = x := by
  have a := pr1_ok x h0 h1
  have b := pr2_ok x h0 h1
  unfold twoZ
  generalize (pr1 x).toNat = u at *
  generalize (pr2 x).toNat = v at *
  rw [if_pos (by omega)]
  omega
def timeL (a b c d e f g : Int) : List UInt8 := [pr1 a, pr2 a, pr1 b, pr2 b, pr1 c, pr2 c, pr1 d, pr2 d, 84, pr1 e, pr2 e, pr1 f, pr2 f, pr1 g, pr2 g, 90]
def showT (t : Int) : List UInt8 := timeL ((Clk.civ (t / 86400)).1 / 100) ((Clk.civ (t / 86400)).1 % 100) (Clk.civ (t / 86400)).2.1 (Clk.civ (t / 86400)).2.2 (t % 86400 / 3600) (t % 86400 / 60 % 60) (t % 86400 % 60)
theorem showT_len (t : Int) : (showT t).length = 16 := rfl
theorem civ_ok (t : Int) (h0 : 0 ≤ t) (h1 : t ≤ 253402300799) : Clk.day (Clk.civ (t / 86400)).1 (Clk.civ (t / 86400)).2.1 (Clk.civ (t / 86400)).2.2 = (t / 86400, 0) ∧ 1 ≤ (Clk.civ (t / 86400)).1 ∧ (Clk.civ (t / 86400)).1 ≤ 9999 ∧ 1 ≤ (Clk.civ (t / 86400)).2.1 ∧ (Clk.civ (t / 86400)).2.1 ≤ 12 ∧ 1 ≤ (Clk.civ (t / 86400)).2.2 ∧ (Clk.civ (t / 86400)).2.2 ≤ 31 :=
  Clk.day_civ (t / 86400) (by omega) (by omega)
theorem read_show (t : Int) (h0 : 0 ≤ t) (h1 : t ≤ 253402300799) : readZ (showT t) = (t, 0) := by
  obtain ⟨hd, y1, y2, m1, m2, d1, d2⟩ := civ_ok t h0 h1
  unfold showT
  generalize hy : (Clk.civ (t / 86400)).1 = y at *
  generalize hm : (Clk.civ (t / 86400)).2.1 = m at *
  generalize hdd : (Clk.civ (t / 86400)).2.2 = d at *
  have e1 := two_pr (y / 100) (by omega) (by omega)
  have e2 := two_pr (y % 100) (by omega) (by omega)
  have e3 := two_pr m (by omega) (by omega)
  have e4 := two_pr d (by omega) (by omega)
  have e5 := two_pr (t % 86400 / 3600) (by omega) (by omega)
  have e6 := two_pr (t % 86400 / 60 % 60) (by omega) (by omega)
  have e7 := two_pr (t % 86400 % 60) (by omega) (by omega)
  have hyy : 100 * (y / 100) + y % 100 = y := by omega
  have key : ∀ a b c d e f g : Int, readZ (timeL a b c d e f g) =
      if 99 < twoZ (pr1 a) (pr2 a) ∨ 99 < twoZ (pr1 b) (pr2 b) ∨ 23 < twoZ (pr1 e) (pr2 e) ∨ 59 < twoZ (pr1 f) (pr2 f) ∨ 59 < twoZ (pr1 g) (pr2 g) then (0, 6)
      else if (Clk.day (100 * twoZ (pr1 a) (pr2 a) + twoZ (pr1 b) (pr2 b)) (twoZ (pr1 c) (pr2 c)) (twoZ (pr1 d) (pr2 d))).2 ≠ 0 ∨ (Clk.day (100 * twoZ (pr1 a) (pr2 a) + twoZ (pr1 b) (pr2 b)) (twoZ (pr1 c) (pr2 c)) (twoZ (pr1 d) (pr2 d))).1 < 0 then (0, 6)
      else ((Clk.day (100 * twoZ (pr1 a) (pr2 a) + twoZ (pr1 b) (pr2 b)) (twoZ (pr1 c) (pr2 c)) (twoZ (pr1 d) (pr2 d))).1 * 86400 + (3600 * twoZ (pr1 e) (pr2 e) + 60 * twoZ (pr1 f) (pr2 f) + twoZ (pr1 g) (pr2 g)), 0) := by
    intro a b c d e f g
    unfold readZ
    rw [if_neg (by simp [timeL])]
    rfl
  rw [key, e1, e2, e3, e4, e5, e6, e7, hyy, hd, if_neg (by omega), if_neg (by simp; omega)]
  refine Prod.ext ?_ rfl
  show t / 86400 * 86400 + (3600 * (t % 86400 / 3600) + 60 * (t % 86400 / 60 % 60) + t % 86400 % 60) = t
  omega
theorem show_time (t : Int) (h0 : 0 ≤ t) (h2 : t < 18446744073709551616) : clock_Show.f t = some (if 253402300799 < t then (⟨#[]⟩, 6) else (B (showT t), 0)) := by
  unfold clock_Show.f
  by_cases h1 : 253402300799 < t
  · rw [if_pos h1, if_pos h1]
  · rw [if_neg h1, if_neg h1]
    obtain ⟨hd, y1, y2, m1, m2, d1, d2⟩ := civ_ok t h0 (by omega)
    have ht : Int.tdiv t 86400 = t / 86400 := Int.tdiv_eq_ediv_of_nonneg h0
    have hm : Int.tmod t 86400 = t % 86400 := Int.tmod_eq_emod_of_nonneg h0
    have hw1 : wrap64 (IntKind.u64.wrap (t / 86400)) = t / 86400 := by
      have : IntKind.u64.wrap (t / 86400) = t / 86400 := IntWalk.u64_in _ (by omega)
      rw [this]; unfold wrap64; omega
    have hw2 : wrap64 (t % 86400) = t % 86400 := by unfold wrap64; omega
    rw [ht, hm, hw1, hw2]
    unfold clock_Civil.f
    rw [Option.bind_some]
    unfold showT
    generalize (Clk.civ (t / 86400)).1 = y at *
    generalize (Clk.civ (t / 86400)).2.1 = m at *
    generalize (Clk.civ (t / 86400)).2.2 = d at *
    rw [Int.tdiv_eq_ediv_of_nonneg (a := y) (by omega), Int.tmod_eq_emod_of_nonneg (a := y) (by omega), Int.tdiv_eq_ediv_of_nonneg (a := t % 86400) (b := 3600) (by omega), Int.tdiv_eq_ediv_of_nonneg (a := t % 86400) (b := 60) (by omega),
      Int.tmod_eq_emod_of_nonneg (a := t % 86400) (by omega)]
    rw [show wrap64 (y / 100) = y / 100 by unfold wrap64; omega, show wrap64 (t % 86400 / 3600) = t % 86400 / 3600 by unfold wrap64; omega, show wrap64 (t % 86400 / 60) = t % 86400 / 60 by unfold wrap64; omega, Int.tmod_eq_emod_of_nonneg (a := t % 86400 / 60) (by omega)]
    have hp : ∀ l : List Int, l.length ≤ 100 → (∀ x ∈ l, 0 ≤ x ∧ x < 100) → clock_pairs.f l = some (B (l.flatMap prTwo)) := fun l a b => if_pos ⟨a, b⟩
    rw [hp [y / 100, y % 100, m, d] (by simp) (by simp; omega), Option.bind_some, hp [t % 86400 / 3600, t % 86400 / 60 % 60, t % 86400 % 60] (by simp) (by simp; omega)]
    rw [if_pos (by rw [szB]; simp [prTwo]), Option.bind_some, show (⟨#[84]⟩ : ByteArray) = B [84] from rfl, appB, szB, szB, if_pos (by simp [prTwo]), appB, szB, if_pos (by simp [prTwo]), show (⟨#[90]⟩ : ByteArray) = B [90] from rfl, appB]
    rfl
theorem same_l0 (a b : List UInt8) (hab : a.length = b.length) (hl : a.length ≤ 100000000) : ∀ (d k i : Nat) (acc : Nat), d = a.length - i → i ≤ a.length → d < k → acc < 256 →
    digest_Same.l0 k (b.map fun x => (x.toNat : Int)) (acc : Int) (a.map fun x => (x.toNat : Int)) (a.length : Int) (i : Int) = some (decide (acc = 0 ∧ a.drop i = b.drop i))
  | d, k, i, acc, hd, hi, hk, hacc => by
    obtain ⟨k, rfl⟩ : ∃ m, k = m + 1 := ⟨k - 1, by omega⟩
    rw [digest_Same.l0]
    cases d with
    | zero =>
      rw [if_neg (by omega), List.drop_eq_nil_of_le (by omega), List.drop_eq_nil_of_le (by omega)]
      congr 1
      rw [Bool.eq_iff_iff]
      simp
    | succ d =>
      have h1 : i < a.length := by omega
      have h2 : i < b.length := by omega
      have ra : rd (a.map fun x => (x.toNat : Int)) (i : Int) = (a[i].toNat : Int) := by unfold rd; rw [Int.toNat_natCast, List.getD_eq_getElem?_getD, List.getElem?_map, List.getElem?_eq_getElem h1]; rfl
      have rb : rd (b.map fun x => (x.toNat : Int)) (i : Int) = (b[i].toNat : Int) := by unfold rd; rw [Int.toNat_natCast, List.getD_eq_getElem?_getD, List.getElem?_map, List.getElem?_eq_getElem h2]; rfl
      have la : a[i].toNat < 256 := a[i].toNat_lt
      have lb : b[i].toNat < 256 := b[i].toNat_lt
      have lx : a[i].toNat ^^^ b[i].toNat < 256 := Nat.xor_lt_two_pow (n := 8) la lb
      rw [if_pos (by omega), if_pos (by omega), if_pos (by rw [List.length_map]; omega), if_pos (by rw [List.length_map]; omega), ra, rb,
        Sha.xor_nat (k := .u8) rfl la lb, Sha.or_nat (k := .u8) rfl hacc lx, w1 i (by omega),
        same_l0 a b hab hl d k (i + 1) _ (by omega) (by omega) (by omega) (Nat.or_lt_two_pow (n := 8) hacc lx), List.drop_eq_getElem_cons h1, List.drop_eq_getElem_cons h2]
      congr 1
      rw [Bool.eq_iff_iff]
      simp only [decide_eq_true_eq, Nat.or_eq_zero_iff, List.cons.injEq]
      have hx : (a[i].toNat ^^^ b[i].toNat = 0) ↔ a[i] = b[i] := by
        rw [← UInt8.toNat_inj]
        constructor
        · intro h
          have h9 := congrArg (· ^^^ b[i].toNat) h
          simpa [Nat.xor_assoc] using h9
        · intro h
          rw [h, Nat.xor_self]
      rw [hx, and_assoc]
theorem same_f (a b : List UInt8) (hl : a.length ≤ 100000000) (k : Nat) (hk : a.length < k) : digest_Same.f k (bytesOf (B a)) (bytesOf (B b)) = some (decide (a = b)) := by
  unfold digest_Same.f
  rw [bytesOf_length, bytesOf_length, szB, szB]
  by_cases h : a.length = b.length
  · rw [if_pos (by omega)]
    have := same_l0 a b h hl a.length k 0 0 rfl (Nat.zero_le _) hk (by decide)
    rw [List.drop_zero, List.drop_zero] at this
    simp only [true_and] at this
    exact this
  · rw [if_neg (by omega), decide_eq_false (fun e => h (congrArg List.length e))]
theorem index_l0 (L : List (List UInt8)) (n : List UInt8) (hl : L.length ≤ 1000000) : ∀ (d k i : Nat), d = L.length - i → i ≤ L.length → d < k →
    ∃ v : Int, slices_Index_string_string.l0 k (L.map B) (B n) (L.length : Int) (i : Int) = some v ∧ (decide (v ≥ 0) = (L.drop i).contains n)
  | d, k, i, hd, hi, hk => by
    obtain ⟨k, rfl⟩ : ∃ m, k = m + 1 := ⟨k - 1, by omega⟩
    rw [slices_Index_string_string.l0]
    cases d with
    | zero =>
      rw [if_neg (by omega), List.drop_eq_nil_of_le (by omega)]
      exact ⟨-1, rfl, rfl⟩
    | succ d =>
      have h1 : i < L.length := by omega
      rw [if_pos (by omega), if_pos (by omega), if_pos (by rw [List.length_map]; omega), rdB L i h1, toL, toL, List.drop_eq_getElem_cons h1, w1 i (by omega)]
      by_cases e : n = L[i]
      · rw [if_pos e]
        refine ⟨(i : Int), rfl, ?_⟩
        rw [decide_eq_true (by omega), List.contains_cons, beq_iff_eq.2 e]
        rfl
      · rw [if_neg e]
        obtain ⟨v, h3, h4⟩ := index_l0 L n hl d k (i + 1) (by omega) (by omega) (by omega)
        refine ⟨v, h3, ?_⟩
        rw [h4, List.contains_cons, beq_eq_false_iff_ne.2 e]
        rfl
theorem contains_f (L : List (List UInt8)) (n : List UInt8) (hl : L.length ≤ 1000000) (k : Nat) (hk : L.length < k) : slices_Contains_string_string.f k (L.map B) (B n) = some (L.contains n) := by
  obtain ⟨v, h3, h4⟩ := index_l0 L n hl L.length k 0 rfl (Nat.zero_le _) hk
  unfold slices_Contains_string_string.f slices_Index_string_string.f
  rw [List.length_map]
  rw [show ((0 : Nat) : Int) = 0 from rfl] at h3
  rw [h3, Option.bind_some, h4, List.drop_zero]
def sigL (sec : List UInt8) (t : Int) (c : List UInt8) : List UInt8 := hexZ (chainN (keyN sec ((showT t).take 8)) [Uri.jn [10] [bl algB, showT t, (showT t).take 8 ++ scopeL, hexZ (shaOf (nb c))]])
theorem sigL_len (sec : List UInt8) (t : Int) (c : List UInt8) : (sigL sec t c).length = 64 := by unfold sigL; rw [hexZ_len, chainN_len]
def signZ (sec m p q : List UInt8) (hs : List S55) (body : List Int) (ns : List (List UInt8)) (t : Int) : ByteArray × Int :=
  if 253402300799 < t then (⟨#[]⟩, 6)
  else if (canZ m p q hs body ns).2 = 0 then (B (sigL sec t (bl (canZ m p q hs body ns).1)), 0) else (⟨#[]⟩, (canZ m p q hs body ns).2)
theorem canZ_len (m p q : List UInt8) (hs : List S55) (body : List Int) (ns : List (List UInt8)) (hS : Small m p q hs body) : (canZ m p q hs body ns).1.size ≤ 9000000 := by
  unfold canZ
  split
  · rename_i hN
    have hb := okNs_bounds hN
    split
    · split
      · rw [szB]
        unfold textL
        have h1 := text_sum m p q hs body ns hS hb.2.1 (fun x hx => okN_len (hb.2.2 x hx))
        have h2 := Uri.jn_len [10] ([m, Uri.enc true (decR p).1, Uri.canon (prs (resQ q).1)] ++ ns.map (lineL hs) ++ [[], Uri.jn [59] ns, bodyS body])
        have h3 : ([m, Uri.enc true (decR p).1, Uri.canon (prs (resQ q).1)] ++ ns.map (lineL hs) ++ [[], Uri.jn [59] ns, bodyS body]).length ≤ 30 := by simp; omega
        simp only [List.length_singleton] at h2
        omega
      · exact Nat.zero_le _
    · exact Nat.zero_le _
  · exact Nat.zero_le _
theorem sign_f (sec m p q : List UInt8) (hs : List S55) (body : List Int) (ns : List (List UInt8)) (t : Int) (hS : Small m p q hs body) (hsec : sec.length ≤ 1000000) (hn : ns.length ≤ 1000) (hnl : ∀ x ∈ ns, x.length ≤ 1000000) (h0 : 0 ≤ t) (h2 : t < 18446744073709551616) (k : Nat) (hk : 2000 < k) :
    sigv4_Sign.f k (B sec) (B m) (B p) (B q) hs body (ns.map B) t = some (signZ sec m p q hs body ns t) := by
  unfold sigv4_Sign.f signA signZ
  rw [show_time t h0 h2, Option.bind_some]
  by_cases h1 : 253402300799 < t
  · rw [if_pos h1, if_pos h1, if_neg (by decide)]
  · rw [if_neg h1, if_neg h1, if_pos rfl, can_f m p q hs body ns hS hn hnl k hk, Option.bind_some]
    have hc := canZ_len m p q hs body ns hS
    by_cases hc2 : (canZ m p q hs body ns).2 = 0
    · have he : (B (showT t)).extract 0 8 = B ((showT t).take 8) := by rw [extB]; rfl
      rw [if_pos hc2, if_pos hc2, if_pos ⟨by rw [szB]; exact hsec, by rw [szB, showT_len]; decide, by rw [szB, showT_len]; decide, by omega⟩, he, scope_f _ (by rw [List.length_take, showT_len]; decide), Option.bind_some, if_pos (by rw [szB, List.length_append, List.length_take, showT_len]; decide)]
      rfl
    · rw [if_neg hc2, if_neg hc2]
end Go.Proofs.YtghcadbmjglidaaGreatDoor.Sp
end
section
set_option linter.unusedVariables false
namespace Go.Proofs.YtghcadbmjglidaaGreatDoor.Sp
open Go.RowKit Go.Proofs.YtghcadbmjglidaaGreatDoor.PSg Go.Proofs.YtghcadbmjglidaaGreatDoorW.PrintWords Go.Proofs.YtghcadbmjglidaaGreatDoorW.PrintLast
abbrev Res := ByteArray × ByteArray × ByteArray × List S55 × List Int × Int
def attN (e : Int) : Res := (⟨#[]⟩, ⟨#[]⟩, ⟨#[]⟩, [], [], e)
def sortL (L : List (List UInt8)) : List (List UInt8) := L.mergeSort fun x y => decide (x ≤ y)
def nmsL (hs : List S55) : List (List UInt8) := hs.map fun x => bl x.f0
def dateH (t : Int) : S55 := ⟨xdateB, B (showT t)⟩
def attT (m p q : List UInt8) (hl : List S55) (body : List Int) (who sec : List UInt8) (t : Int) : Res :=
  if (signZ sec m p q hl body (sortL (nmsL hl)) t).2 = 0 then
    if rightB who ((showT t).take 8) (sortL (nmsL hl)) (bl (signZ sec m p q hl body (sortL (nmsL hl)) t).1) = true then
      (B m, B p, B q, hl ++ [⟨authB, B (showB who ((showT t).take 8) (sortL (nmsL hl)) (bl (signZ sec m p q hl body (sortL (nmsL hl)) t).1))⟩], body, 0)
    else attN 20
  else attN (signZ sec m p q hl body (sortL (nmsL hl)) t).2
def attZ (m p q : List UInt8) (hs : List S55) (body : List Int) (who sec : List UInt8) (t : Int) : Res :=
  if 253402300799 < t then attN 6
  else if (findH hs authB).2 = true ∨ (findH hs xdateB).2 = true ∨ 22 < hs.length then attN 11
  else attT m p q (hs ++ [dateH t]) body who sec t
theorem sortT_B (L : List (List UInt8)) : sortT (L.map B) = (sortL L).map B := by
  unfold sortT sortL
  rw [jn_map]
  rfl
theorem sortL_perm (L : List (List UInt8)) : (sortL L).Perm L := List.mergeSort_perm _ _
theorem sortL_len (L : List (List UInt8)) : (sortL L).length = L.length := (sortL_perm L).length_eq
theorem clone_b (body : List Int) (h : body.length ≤ 1000000) : slices_Clone_byte_byte.f body = some body := if_pos (by omega)
theorem signZ_len (sec m p q : List UInt8) (hs : List S55) (body : List Int) (ns : List (List UInt8)) (t : Int) : (bl (signZ sec m p q hs body ns t).1).length ≤ 64 := by
  unfold signZ
  split
  · exact Nat.zero_le _
  · split
    · rw [blB, sigL_len]; exact Nat.le_refl _
    · exact Nat.zero_le _
theorem att_l0 (m p q : List UInt8) (hl : List S55) (body : List Int) (who sec : List UInt8) (t : Int) (hS : Small m p q hl body) (hn : hl.length ≤ 23) (hnl : ∀ x ∈ hl, (bl x.f0).length ≤ 1000000) (hw : who.length ≤ 1000000) (hsec : sec.length ≤ 1000000) (h0 : 0 ≤ t) (h2 : t < 18446744073709551616) (M : Nat) (hM : 2002 ≤ M) : ∀ (d k i : Nat), d = hl.length - i → i ≤ hl.length → d + M < k →
    sigv4_Attach.l0 k (B sec) t hl (hl.length : Int) (i : Int) (B m) (B p) (B q) hl body (B who) (B ((showT t).take 8)) (((nmsL hl).take i).map B) (⟨#[]⟩ : ByteArray) = some (attT m p q hl body who sec t)
  | d, k, i, hd, hi, hk => by
    obtain ⟨k, rfl⟩ : ∃ m, k = m + 1 := ⟨k - 1, by omega⟩
    have hnm : (nmsL hl).length = hl.length := List.length_map ..
    rw [sigv4_Attach.l0]
    cases d with
    | zero =>
      have hie : i = (nmsL hl).length := by omega
      rw [if_neg (by omega), hie, List.take_length]
      rw [show slices_Sort_string_string.f ((nmsL hl).map B) = some ((sortL (nmsL hl)).map B) from by
        unfold slices_Sort_string_string.f
        rw [if_pos (by rw [List.length_map]; omega), sortT_B], Option.bind_some]
      have hsl : (sortL (nmsL hl)).length = hl.length := by rw [sortL_len, hnm]
      have hsm : ∀ x ∈ sortL (nmsL hl), x.length ≤ 1000000 := fun x hx => by
        obtain ⟨y, hy, rfl⟩ := List.mem_map.1 ((sortL_perm _).mem_iff.1 hx)
        exact hnl y hy
      rw [sign_f sec m p q hl body _ t hS hsec (by omega) hsm h0 h2 k (by omega), Option.bind_some]
      unfold attT
      have hg := signZ_len sec m p q hl body (sortL (nmsL hl)) t
      generalize signZ sec m p q hl body (sortL (nmsL hl)) t = g at *
      by_cases hg0 : g.2 = 0
      · rw [if_pos hg0, if_pos hg0]
        have hrf := right_f who ((showT t).take 8) (bl g.1) (sortL (nmsL hl)) (by omega) (by rw [List.length_take, showT_len]; decide) (by omega) (fun x hx => Nat.le_trans (hsm x hx) (by decide)) (by omega) k (by omega)
        rw [B_bl] at hrf
        rw [hrf, Option.bind_some]
        cases hr : rightB who ((showT t).take 8) (sortL (nmsL hl)) (bl g.1) with
        | false => rw [if_neg (by simp), if_neg (by simp)]; rfl
        | true =>
          rw [if_pos rfl, if_pos rfl]
          have hsum : ((sortL (nmsL hl)).map List.length).sum ≤ 100000000 := Nat.le_trans (sum_le _ 1000000 _ hsm) (by rw [hsl]; omega)
          have hsf := show_f who ((showT t).take 8) (bl g.1) (sortL (nmsL hl)) (by omega) (by rw [List.length_take, showT_len]; decide) (by omega) hsum (by omega)
          rw [B_bl] at hsf
          rw [hsf, Option.bind_some, if_pos (by omega), clone_b body hS.bl, Option.bind_some]
          rfl
      · rw [if_neg hg0, if_neg hg0]
        rfl
    | succ d =>
      have hlt : i < hl.length := by omega
      have hlt2 : i < (nmsL hl).length := by omega
      have hr : (rd_T55 hl (i : Int)).f0 = B (nmsL hl)[i] := by
        have e2 : (nmsL hl)[i] = bl hl[i].f0 := by simp [nmsL]
        rw [e2, B_bl]
        unfold rd_T55
        rw [Int.toNat_natCast, List.getD_eq_getElem?_getD, List.getElem?_eq_getElem hlt]
        rfl
      rw [if_pos (by omega), if_pos (by omega), if_pos (by omega), if_pos (by rw [List.length_map, List.length_take]; omega), w1 i (by omega), hr]
      have hstep : ((nmsL hl).take i).map B ++ [B (nmsL hl)[i]] = ((nmsL hl).take (i + 1)).map B := by
        rw [List.take_succ_eq_append_getElem hlt2, List.map_append]; rfl
      rw [hstep]
      exact att_l0 m p q hl body who sec t hS hn hnl hw hsec h0 h2 M hM d k (i + 1) (by omega) (by omega) (by omega)
theorem small_snoc {m p q : List UInt8} {hs : List S55} {body : List Int} (h : Small m p q hs body) (x : S55) (hx : (bl x.f1).length ≤ 40000) (hl : hs.length ≤ 900) : Small m p q (hs ++ [x]) body :=
  ⟨h.m, h.p, h.q, by simp; omega, fun y hy => by
    rcases List.mem_append.1 hy with hy | hy
    · exact h.hv y hy
    · rw [List.mem_singleton] at hy; subst hy; exact hx, h.bl, h.bb⟩
theorem attach_f (m p q : List UInt8) (hs : List S55) (body : List Int) (who sec : List UInt8) (t : Int) (hS : Small m p q hs body) (hnl : ∀ x ∈ hs, (bl x.f0).length ≤ 1000000) (hw : who.length ≤ 1000000) (hsec : sec.length ≤ 1000000) (h0 : 0 ≤ t) (h2 : t < 18446744073709551616) (k : Nat) (hk : 2100 < k) :
    sigv4_Attach.f k (B m) (B p) (B q) hs body (B who) (B sec) t = some (attZ m p q hs body who sec t) := by
  have hget : ∀ n, request_Get.f (B m) (B p) (B q) hs body n = some (findH hs n) := fun n => if_pos (by have := hS.hl; omega)
  unfold sigv4_Attach.f attZ
  rw [show_time t h0 h2, Option.bind_some]
  by_cases h1 : 253402300799 < t
  · rw [if_pos h1, if_pos h1, if_neg (by decide)]; rfl
  · rw [if_neg h1, if_neg h1, if_pos rfl]
    rw [show (⟨#[97, 117, 116, 104, 111, 114, 105, 122, 97, 116, 105, 111, 110]⟩ : ByteArray) = authB from rfl, show (⟨#[120, 45, 97, 109, 122, 45, 100, 97, 116, 101]⟩ : ByteArray) = xdateB from rfl]
    rw [hget, Option.bind_some, hget, Option.bind_some]
    obtain ⟨k, rfl⟩ : ∃ m, k = m + 1 := ⟨k - 1, by omega⟩
    cases hx : (findH hs authB).2 with
    | true => rw [if_pos rfl, if_pos (.inl rfl), sigv4_Attach.j0, if_pos rfl]; rfl
    | false =>
      rw [if_neg (by simp)]
      cases hy : (findH hs xdateB).2 with
      | true => rw [if_pos rfl, if_pos (.inr (.inl rfl)), sigv4_Attach.j0, if_pos rfl]; rfl
      | false =>
        rw [if_neg (by simp), show wrap64 ((hs.length : Int) + 2) = (hs.length : Int) + 2 by have := hS.hl; unfold wrap64; omega, sigv4_Attach.j0]
        by_cases hn : 22 < hs.length
        · rw [if_pos (by simp; omega), if_pos (.inr (.inr hn))]; rfl
        · rw [if_neg (by simp; omega), if_neg (by simp; omega)]
          rw [show request_Header_31.f hs = some hs from if_pos (by have := hS.hl; omega), Option.bind_some, if_pos (by omega), Option.bind_some, if_pos (by decide), if_pos (by rw [szB, showT_len]; decide)]
          have he : (B (showT t)).extract 0 8 = B ((showT t).take 8) := by rw [extB]; rfl
          rw [he]
          have hS2 := small_snoc hS (dateH t) (by show (bl (B (showT t))).length ≤ _; rw [blB, showT_len]; decide) (by omega)
          refine att_l0 m p q (hs ++ [dateH t]) body who sec t hS2 (by simp; omega) (fun x hx => ?_) hw hsec h0 h2 2002 (Nat.le_refl _) (hs ++ [dateH t]).length k 0 rfl (Nat.zero_le _) (by simp; omega)
          rcases List.mem_append.1 hx with hx | hx
          · exact hnl x hx
          · rw [List.mem_singleton] at hx; subst hx; show (bl xdateB).length ≤ 1000000; decide
def nearZ (a b : Int) : Bool := decide ((IntKind.u64.wrap ((mx a b) - (mn a b))) ≤ 900)
def verZ (m p q : List UInt8) (hs : List S55) (body : List Int) (sec : List UInt8) (now : Int) : Int :=
  if orZ [(rdS (bl (findH hs authB).1)).2.2.2.2, (readZ (bl (findH hs xdateB).1)).2] = 0 then
    if (bl (findH hs xdateB).1).take 8 = bl (rdS (bl (findH hs authB).1)).2.1 then
      if ((rdS (bl (findH hs authB).1)).2.2.1.map bl).contains (bl xdateB) = true then
        if nearZ (readZ (bl (findH hs xdateB).1)).1 now = true then
          if (signZ sec m p q hs body ((rdS (bl (findH hs authB).1)).2.2.1.map bl) (readZ (bl (findH hs xdateB).1)).1).2 = 0 then
            if bl (signZ sec m p q hs body ((rdS (bl (findH hs authB).1)).2.2.1.map bl) (readZ (bl (findH hs xdateB).1)).1).1 = bl (rdS (bl (findH hs authB).1)).2.2.2.1 then 0 else 20
          else (signZ sec m p q hs body ((rdS (bl (findH hs authB).1)).2.2.1.map bl) (readZ (bl (findH hs xdateB).1)).1).2
        else 21
      else 20
    else 20
  else 20
theorem readZ_range (l : List UInt8) : 0 ≤ (readZ l).1 ∧ (readZ l).1 < 18446744073709551616 ∧ ((readZ l).2 = 0 → l.length = 16) := by
  unfold readZ
  split
  · simp
  · rename_i h1
    have h16 : l.length = 16 := by
      by_cases h : l.length = 16
      · exact h
      · exact absurd (.inl h) h1
    split
    · simp
    · split
      · simp
      · rename_i h2 h3
        have hd := Clk.day_range (100 * twoZ (l.getD 0 0) (l.getD 1 0) + twoZ (l.getD 2 0) (l.getD 3 0)) (twoZ (l.getD 4 0) (l.getD 5 0)) (twoZ (l.getD 6 0) (l.getD 7 0))
        have a := twoZ_le (l.getD 9 0) (l.getD 10 0)
        have b := twoZ_le (l.getD 11 0) (l.getD 12 0)
        have c := twoZ_le (l.getD 13 0) (l.getD 14 0)
        generalize Clk.day (100 * twoZ (l.getD 0 0) (l.getD 1 0) + twoZ (l.getD 2 0) (l.getD 3 0)) (twoZ (l.getD 4 0) (l.getD 5 0)) (twoZ (l.getD 6 0) (l.getD 7 0)) = dd at *
        refine ⟨?_, ?_, fun _ => h16⟩
        · show 0 ≤ dd.1 * 86400 + _; omega
        · show dd.1 * 86400 + _ < _; omega
theorem rdS_names (s : List UInt8) (hs : s.length ≤ 900000) : ∃ L : List (List UInt8), (rdS s).2.2.1 = L.map B ∧ L.length ≤ 24 ∧ (∀ x ∈ L, x.length ≤ 64) ∧ (bl (rdS s).2.2.2.1).length ≤ 64 := by
  unfold rdS
  split
  · rename_i h
    have h1 := h.1
    unfold rightB at h1
    simp only [Bool.and_eq_true] at h1
    have hf := okNs_facts h1.1.2
    refine ⟨_, rfl, hf.2.1, hf.2.2.1, ?_⟩
    have h2 := h1.2
    unfold okS at h2
    simp only [Bool.and_eq_true, decide_eq_true_eq] at h2
    rw [show bl (B (cA4 s).2.1) = (cA4 s).2.1 from rfl, h2.2]
    exact Nat.le_refl _
  · exact ⟨[], rfl, by simp, fun x hx => absurd hx (List.not_mem_nil), by simp [bl]⟩
theorem verify_f (m p q : List UInt8) (hs : List S55) (body : List Int) (sec : List UInt8) (now : Int) (hS : Small m p q hs body) (hsec : sec.length ≤ 1000000) (k : Nat) (hk : 1000000 < k) :
    sigv4_Verify.f k (B m) (B p) (B q) hs body (B sec) now = some (verZ m p q hs body sec now) := by
  have hget : ∀ n, request_Get.f (B m) (B p) (B q) hs body n = some (findH hs n) := fun n => if_pos (by have := hS.hl; omega)
  have hv1 := findH_len hS.hv authB
  have hv2 := findH_len hS.hv xdateB
  unfold sigv4_Verify.f verA verZ
  rw [hget, Option.bind_some]
  rw [show sigv4_ReadAuth.f k (findH hs authB).1 = some (rdS (bl (findH hs authB).1)) from by
    have := read_f (bl (findH hs authB).1) (by omega) k (by omega)
    rwa [B_bl] at this, Option.bind_some]
  rw [hget, Option.bind_some]
  rw [show clock_Read.f (findH hs xdateB).1 = some (readZ (bl (findH hs xdateB).1)) from rfl, Option.bind_some]
  have hz := readZ_range (bl (findH hs xdateB).1)
  obtain ⟨L, hL, hL1, hL2, hL3⟩ := rdS_names (bl (findH hs authB).1) (by omega)
  by_cases h1 : orZ [(rdS (bl (findH hs authB).1)).2.2.2.2, (readZ (bl (findH hs xdateB).1)).2] = 0
  · rw [if_pos h1, if_pos h1]
    have hz2 : (readZ (bl (findH hs xdateB).1)).2 = 0 := by
      unfold orZ at h1
      split at h1
      · unfold orZ at h1
        split at h1
        · assumption
        · rename_i h9; exact absurd h1 h9
      · rename_i h9; exact absurd h1 h9
    have h16 := hz.2.2 hz2
    have hsz : (findH hs xdateB).1.size = 16 := by rw [Lib.size_eq]; exact h16
    rw [if_pos (by omega)]
    have he : ((findH hs xdateB).1.extract 0 8).toList = (bl (findH hs xdateB).1).take 8 := by
      have := extB (bl (findH hs xdateB).1) 0 8
      rw [B_bl] at this
      rw [this, toL, List.drop_zero]
    have hbt : (rdS (bl (findH hs authB).1)).2.1.toList = bl (rdS (bl (findH hs authB).1)).2.1 := by rw [ByteArray.toList_eq]; rfl
    rw [he, hbt]
    by_cases h2 : (bl (findH hs xdateB).1).take 8 = bl (rdS (bl (findH hs authB).1)).2.1
    · rw [if_pos h2, if_pos h2, hL, jn_map]
      rw [show slices_Contains_string_string.f k (L.map B) xdateB = some (L.contains (bl xdateB)) from contains_f L (bl xdateB) (by omega) k (by omega), Option.bind_some]
      cases h3 : L.contains (bl xdateB) with
      | false => rw [if_neg (by simp), if_neg (by simp)]
      | true =>
        rw [if_pos rfl, if_pos rfl]
        rw [show clock_Near.f (readZ (bl (findH hs xdateB).1)).1 now 900 = some (nearZ (readZ (bl (findH hs xdateB).1)).1 now) from rfl, Option.bind_some]
        cases h4 : nearZ (readZ (bl (findH hs xdateB).1)).1 now with
        | false => rw [if_neg (by simp), if_neg (by simp)]
        | true =>
          rw [if_pos rfl, if_pos rfl, sign_f sec m p q hs body L _ hS hsec (by omega) (fun x hx => Nat.le_trans (hL2 x hx) (by decide)) hz.1 hz.2.1 k (by omega), Option.bind_some]
          have hg := signZ_len sec m p q hs body L (readZ (bl (findH hs xdateB).1)).1
          generalize signZ sec m p q hs body L (readZ (bl (findH hs xdateB).1)).1 = g at *
          by_cases h5 : g.2 = 0
          · rw [if_pos h5, if_pos h5, if_pos ⟨by rw [Lib.size_eq]; exact Nat.le_trans hg (by decide), by rw [Lib.size_eq]; exact Nat.le_trans hL3 (by decide)⟩]
            have hsame := same_f (bl g.1) (bl (rdS (bl (findH hs authB).1)).2.2.2.1) (Nat.le_trans hg (by decide)) k (by omega)
            rw [B_bl, B_bl] at hsame
            rw [hsame, Option.bind_some]
            by_cases h6 : bl g.1 = bl (rdS (bl (findH hs authB).1)).2.2.2.1
            · rw [decide_eq_true h6, if_pos rfl, if_pos h6]
            · rw [decide_eq_false h6, if_neg (by simp), if_neg h6]
          · rw [if_neg h5, if_neg h5]
    · rw [if_neg h2, if_neg h2]
  · rw [if_neg h1, if_neg h1]
end Go.Proofs.YtghcadbmjglidaaGreatDoor.Sp
end
section
set_option linter.unusedVariables false
namespace Go.Proofs.YtghcadbmjglidaaGreatDoor.Sp
open Go.RowKit Go.Proofs.YtghcadbmjglidaaGreatDoor.PSg Go.Proofs.YtghcadbmjglidaaGreatDoorW.PrintWords Go.Proofs.YtghcadbmjglidaaGreatDoorW.PrintLast
theorem toL' (b : ByteArray) : b.toList = bl b := by rw [ByteArray.toList_eq]; rfl
theorem findH_none {hs : List S55} {n : ByteArray} (h : (findH hs n).2 = false) : hs.find? (fun x => x.f0.toList == n.toList) = none := by
  unfold findH at h
  cases hf : hs.find? (fun x => x.f0.toList == n.toList) with
  | none => rfl
  | some y => rw [hf] at h; cases h
theorem findH_left {hs : List S55} {n : ByteArray} (x : S55) (h : (findH hs n).2 = true) : findH (hs ++ [x]) n = findH hs n := by
  unfold findH at h ⊢
  cases hf : hs.find? (fun x => x.f0.toList == n.toList) with
  | none => rw [hf] at h; cases h
  | some y => rw [List.find?_append, hf]; rfl
theorem findH_right {hs : List S55} {n : ByteArray} (x : S55) (h : (findH hs n).2 = false) (hx : x.f0.toList = n.toList) : findH (hs ++ [x]) n = (x.f1, true) := by
  have h1 := findH_none h
  unfold findH
  rw [List.find?_append, h1]
  simp [hx]
theorem findH_skip {hs : List S55} {n : ByteArray} (x : S55) (h : (findH hs n).2 = false) (hx : x.f0.toList ≠ n.toList) : (findH (hs ++ [x]) n).2 = false := by
  have h1 := findH_none h
  unfold findH
  rw [List.find?_append, h1]
  simp [hx]
theorem findH_mem {hs : List S55} {n : List UInt8} (h : n ∈ nmsL hs) : (findH hs (B n)).2 = true := by
  obtain ⟨x, hx, rfl⟩ := List.mem_map.1 h
  unfold findH
  cases hf : hs.find? (fun y => y.f0.toList == (B (bl x.f0)).toList) with
  | none =>
    have := List.find?_eq_none.1 hf x hx
    rw [toL, toL'] at this
    exact absurd (beq_self_eq_true _) this
  | some y => rfl
theorem lineL_left {hl : List S55} (x : S55) {n : List UInt8} (h : n ∈ nmsL hl) : lineL (hl ++ [x]) n = lineL hl n := by
  unfold lineL
  rw [findH_left x (findH_mem h)]
theorem canZ_left (m p q : List UInt8) (hl : List S55) (x : S55) (body : List Int) (ns : List (List UInt8)) (h : ∀ n ∈ ns, n ∈ nmsL hl) : canZ m p q (hl ++ [x]) body ns = canZ m p q hl body ns := by
  unfold canZ textL
  have h1 : ns.map (lineL (hl ++ [x])) = ns.map (lineL hl) := List.map_congr_left fun n hn => lineL_left x (h n hn)
  have h2 : ns.all (fun n => (findH (hl ++ [x]) (B n)).2) = true := List.all_eq_true.2 fun n hn => by rw [findH_left x (findH_mem (h n hn))]; exact findH_mem (h n hn)
  have h3 : ns.all (fun n => (findH hl (B n)).2) = true := List.all_eq_true.2 fun n hn => findH_mem (h n hn)
  rw [h1, h2, h3]
theorem authX : authB.toList ≠ xdateB.toList := by
  rw [toL', toL']
  decide
theorem rdS_show {a d s : List UInt8} {L : List (List UInt8)} (h : rightB a d L s = true) : rdS (showB a d L s) = (B a, B d, L.map B, B s, 0) := by
  obtain ⟨-, e2, e3, e4, e5⟩ := parse h
  unfold rdS
  have a2 : (cA2 (showB a d L s)).1 = a := by rw [e2]
  have a3 : (cA3 (showB a d L s)).1 = d := by rw [e3]
  have a4 : (cA4 (showB a d L s)).1 = Uri.jn [59] L := by rw [e4]
  have a5 : (cA4 (showB a d L s)).2.1 = s := by rw [e4]
  rw [a2, a3, a4, a5, e5, if_pos ⟨h, rfl⟩]
structure Att (m p q : List UInt8) (hs : List S55) (body : List Int) (who sec : List UInt8) (t : Int) (r : Res) : Prop where
  t1 : t ≤ 253402300799
  au : (findH hs authB).2 = false
  xd : (findH hs xdateB).2 = false
  len : hs.length ≤ 22
  sg : (signZ sec m p q (hs ++ [dateH t]) body (sortL (nmsL (hs ++ [dateH t]))) t).2 = 0
  rt : rightB who ((showT t).take 8) (sortL (nmsL (hs ++ [dateH t]))) (bl (signZ sec m p q (hs ++ [dateH t]) body (sortL (nmsL (hs ++ [dateH t]))) t).1) = true
  eq : r = (B m, B p, B q, (hs ++ [dateH t]) ++ [⟨authB, B (showB who ((showT t).take 8) (sortL (nmsL (hs ++ [dateH t]))) (bl (signZ sec m p q (hs ++ [dateH t]) body (sortL (nmsL (hs ++ [dateH t]))) t).1))⟩], body, 0)
theorem att_ok {m p q : List UInt8} {hs : List S55} {body : List Int} {who sec : List UInt8} {t : Int} (h : (attZ m p q hs body who sec t).2.2.2.2.2 = 0) : Att m p q hs body who sec t (attZ m p q hs body who sec t) := by
  unfold attZ at h ⊢
  split at h
  · cases h
  · rename_i h1
    rw [if_neg h1]
    split at h
    · cases h
    · rename_i h2
      rw [if_neg h2]
      unfold attT at h ⊢
      split at h
      · rename_i h3
        rw [if_pos h3]
        split at h
        · rename_i h4
          rw [if_pos h4]
          refine ⟨by omega, ?_, ?_, ?_, h3, h4, rfl⟩
          · cases hx : (findH hs authB).2 with
            | false => rfl
            | true => exact absurd (.inl hx) h2
          · cases hx : (findH hs xdateB).2 with
            | false => rfl
            | true => exact absurd (.inr (.inl hx)) h2
          · by_cases h9 : hs.length ≤ 22
            · exact h9
            · exact absurd (.inr (.inr (by omega))) h2
        · cases h
      · rename_i h3
        exact absurd h h3
theorem back {m p q : List UInt8} {hs : List S55} {body : List Int} {who sec : List UInt8} {t : Int} {r : Res} (h : Att m p q hs body who sec t r) (h0 : 0 ≤ t) (sec' : List UInt8) (now : Int) :
    verZ m p q r.2.2.2.1 body sec' now = if nearZ t now = true then (if bl (signZ sec' m p q (hs ++ [dateH t]) body (sortL (nmsL (hs ++ [dateH t]))) t).1 = bl (signZ sec m p q (hs ++ [dateH t]) body (sortL (nmsL (hs ++ [dateH t]))) t).1 then 0 else 20) else 21 := by
  obtain ⟨t1, au, xd, len, sg, rt, rfl⟩ := h
  dsimp only
  have hrd := rdS_show rt
  have hcz := canZ_left m p q (hs ++ [dateH t]) ⟨authB, B (showB who ((showT t).take 8) (sortL (nmsL (hs ++ [dateH t]))) (bl (signZ sec m p q (hs ++ [dateH t]) body (sortL (nmsL (hs ++ [dateH t]))) t).1))⟩ body (sortL (nmsL (hs ++ [dateH t]))) (fun n hn => (sortL_perm _).mem_iff.1 hn)
  have h9 : (signZ sec' m p q (hs ++ [dateH t]) body (sortL (nmsL (hs ++ [dateH t]))) t).2 = 0 := by
    unfold signZ at sg ⊢
    rw [if_neg (by omega)] at sg ⊢
    split at sg
    · rename_i hc; rw [if_pos hc]
    · rename_i hc; exact absurd sg hc
  generalize htx : showB who ((showT t).take 8) (sortL (nmsL (hs ++ [dateH t]))) (bl (signZ sec m p q (hs ++ [dateH t]) body (sortL (nmsL (hs ++ [dateH t]))) t).1) = tx at *
  have hsz : signZ sec' m p q ((hs ++ [dateH t]) ++ [⟨authB, B tx⟩]) body (sortL (nmsL (hs ++ [dateH t]))) t = signZ sec' m p q (hs ++ [dateH t]) body (sortL (nmsL (hs ++ [dateH t]))) t := by
    unfold signZ
    rw [hcz]
  have hcont : (sortL (nmsL (hs ++ [dateH t]))).contains (bl xdateB) = true := by
    rw [List.contains_iff_mem, (sortL_perm _).mem_iff]
    unfold nmsL
    rw [List.map_append]
    exact List.mem_append.2 (.inr (by simp [dateH]))
  have fa : findH ((hs ++ [dateH t]) ++ [⟨authB, B tx⟩]) authB = (B tx, true) :=
    findH_right ⟨authB, B tx⟩ (findH_skip (dateH t) au (fun e => authX e.symm)) rfl
  have fx0 : findH (hs ++ [dateH t]) xdateB = (B (showT t), true) := findH_right (dateH t) xd rfl
  have fx : findH ((hs ++ [dateH t]) ++ [⟨authB, B tx⟩]) xdateB = (B (showT t), true) := by
    rw [findH_left _ (by rw [fx0]), fx0]
  unfold verZ
  rw [fa, fx]
  dsimp only
  rw [blB, blB, hrd, read_show t h0 t1]
  dsimp only
  rw [if_pos (by simp [orZ]), blB, if_pos rfl, jn_map, if_pos hcont, hsz, h9, if_pos rfl]
  rfl
theorem near_self (t : Int) : nearZ t t = true := by
  unfold nearZ
  have : mx t t - mn t t = 0 := by unfold mx mn; simp
  rw [this]
  decide
end Go.Proofs.YtghcadbmjglidaaGreatDoor.Sp
end
section
set_option linter.unusedVariables false
namespace Go.Proofs.YtghcadbmjglidaaGreatDoor.Sp
open Go.RowKit Go.Proofs.YtghcadbmjglidaaGreatDoor.PSg Go.Proofs.YtghcadbmjglidaaGreatDoorW.PrintWords Go.Proofs.YtghcadbmjglidaaGreatDoorW.PrintLast
theorem hexD_S (n : Nat) (h : n < 16) : pS (hexD n) = true := by
  have : ∀ i : Fin 16, pS (hexD i.val) = true := by decide +kernel
  exact this ⟨n, h⟩
theorem hexZ_S (l : List Nat) (h : ∀ x ∈ l, x < 256) : (hexZ l).all pS = true := by
  rw [List.all_eq_true]
  intro c hc
  unfold hexZ at hc
  obtain ⟨x, hx, hc⟩ := List.mem_flatMap.1 hc
  obtain ⟨y, hy, rfl⟩ := List.mem_map.1 hx
  have := h y hy
  unfold hexTwo hx1 hx2 at hc
  rw [Int.toNat_natCast] at hc
  rcases List.mem_cons.1 hc with rfl | hc
  · exact hexD_S _ (by omega)
  · rw [List.mem_singleton] at hc
    subst hc
    exact hexD_S _ (by omega)
theorem okS_sig (sec : List UInt8) (t : Int) (c : List UInt8) : okS (sigL sec t c) = true := by
  unfold okS
  rw [sigL_len]
  simp only [decide_true, Bool.and_true]
  exact hexZ_S _ (chainN_lt _ _)
def t0 : Int := 1440938160
def hostL : List UInt8 := [104, 111, 115, 116]
def xdL : List UInt8 := [120, 45, 97, 109, 122, 45, 100, 97, 116, 101]
def hs0 : List S55 := [⟨B hostL, B [104]⟩]
def ns0 : List (List UInt8) := [hostL, xdL]
theorem nms0 : nmsL (hs0 ++ [dateH t0]) = ns0 := rfl
theorem sort0 : sortL (nmsL (hs0 ++ [dateH t0])) = ns0 := by
  rw [nms0]
  unfold sortL
  refine List.mergeSort_of_pairwise ?_
  unfold ns0 hostL xdL
  simp [List.pairwise_cons]
  decide
theorem small0 : Small [71, 69, 84] [47, 98] [] hs0 [] := ⟨by decide, by decide, by decide, by decide, fun x hx => by
  rw [List.mem_singleton.1 hx]; decide, by decide, fun x hx => absurd hx (List.not_mem_nil)⟩
theorem dec0 : decR [47, 98] = ([47, 98], 0) := by
  unfold decR
  rw [dec_all [47, 98] (by decide)]
theorem res0 : resQ [] = ([], 0) := by unfold resQ; rw [if_pos rfl]
theorem notin {n : List UInt8} (h : n ≠ hostL) : (findH hs0 (B n)).2 = false := by
  unfold findH hs0
  rw [List.find?_cons]
  rw [show ((⟨B hostL, B [104]⟩ : S55).f0.toList == (B n).toList) = false from beq_eq_false_iff_ne.2 (by rw [toL, toL]; exact fun e => h e.symm)]
  rfl
theorem f0host : findH hs0 (B hostL) = (B [104], true) := by
  unfold findH hs0
  rw [List.find?_cons]
  rw [show ((⟨B hostL, B [104]⟩ : S55).f0.toList == (B hostL).toList) = true from beq_self_eq_true _]
theorem fhost : findH (hs0 ++ [dateH t0]) (B hostL) = (B [104], true) := by
  rw [findH_left _ (by rw [f0host]), f0host]
theorem xdB : xdateB = B xdL := rfl
theorem fdate : findH (hs0 ++ [dateH t0]) (B xdL) = (B (showT t0), true) := findH_right (dateH t0) (notin (by decide)) rfl
def c0 : List UInt8 := Uri.jn [10] [[71, 69, 84], [47, 98], [], hostL ++ [58] ++ [104], xdL ++ [58] ++ showT t0, [], Uri.jn [59] ns0, hexZ (shaOf [])]
theorem text0 : textL [71, 69, 84] [47, 98] [] (hs0 ++ [dateH t0]) [] ns0 = c0 := by
  unfold textL c0 ns0
  rw [dec0, res0]
  have h1 : Uri.canon (prs []) = [] := by
    unfold Uri.canon Uri.sorted prs
    simp [Uri.jn]
  dsimp only
  rw [h1, show Uri.enc true [47, 98] = [47, 98] from by decide +kernel]
  rw [List.map_cons, List.map_cons, List.map_nil, show lineL (hs0 ++ [dateH t0]) hostL = hostL ++ [58] ++ [104] from by unfold lineL; rw [fhost]; rfl, show lineL (hs0 ++ [dateH t0]) xdL = xdL ++ [58] ++ showT t0 from by unfold lineL; rw [fdate]; rfl]
  rfl
theorem can0 : canZ [71, 69, 84] [47, 98] [] (hs0 ++ [dateH t0]) [] ns0 = (B c0, 0) := by
  unfold canZ
  rw [if_pos (by decide), if_pos, dec0, res0, if_pos (by simp [orZ]), text0]
  unfold ns0
  rw [List.all_cons, List.all_cons, List.all_nil, fhost, fdate]
  rfl
theorem sign0 (sec : List UInt8) : signZ sec [71, 69, 84] [47, 98] [] (hs0 ++ [dateH t0]) [] ns0 t0 = (B (sigL sec t0 c0), 0) := by
  unfold signZ
  rw [can0, if_neg (by decide), if_pos rfl]
  rfl
theorem att0 : (attZ [71, 69, 84] [47, 98] [] hs0 [] [97, 49] [115] t0).2.2.2.2.2 = 0 := by
  unfold attZ
  rw [if_neg (by decide), if_neg]
  · unfold attT
    rw [sort0, sign0, if_pos rfl]
    dsimp only
    rw [if_pos]
    show rightB [97, 49] ((showT t0).take 8) ns0 (sigL [115] t0 c0) = true
    unfold rightB
    rw [okS_sig, show okA [97, 49] = true from by decide, show okD ((showT t0).take 8) = true from by decide +kernel, show okNs ns0 = true from by decide]
    rfl
  · rw [show authB = B [97, 117, 116, 104, 111, 114, 105, 122, 97, 116, 105, 111, 110] from rfl, notin (by decide), xdB, notin (by decide)]
    simp [hs0]
set_option maxRecDepth 100000 in
theorem sig_no : sigL [116] t0 c0 ≠ sigL [115] t0 c0 := by decide +kernel
theorem alive_f (k : Nat) (hk : 1000000 < k) : stelelaw06_alive.f k = some true := by
  have hatt := att_ok att0
  have hb := back hatt (by decide) [115] t0
  have hb2 := back hatt (by decide) [116] t0
  rw [near_self, if_pos rfl, if_pos rfl] at hb
  rw [near_self, if_pos rfl, sort0, sign0, sign0, if_neg (by show ¬ (sigL [116] t0 c0 = sigL [115] t0 c0); exact sig_no)] at hb2
  have ha := attach_f [71, 69, 84] [47, 98] [] hs0 [] [97, 49] [115] t0 small0 (fun x hx => by rw [List.mem_singleton.1 hx]; decide) (by decide) (by decide) (by decide) (by decide) k (by omega)
  have heq := hatt.eq
  have hv : ∀ sec : List UInt8, sec.length ≤ 1000000 → sigv4_Verify.f k (B [71, 69, 84]) (B [47, 98]) (B []) (attZ [71, 69, 84] [47, 98] [] hs0 [] [97, 49] [115] t0).2.2.2.1 [] (B sec) t0 = some (verZ [71, 69, 84] [47, 98] [] (attZ [71, 69, 84] [47, 98] [] hs0 [] [97, 49] [115] t0).2.2.2.1 [] sec t0) := by
    intro sec hsec
    refine verify_f _ _ _ _ _ sec t0 ?_ hsec k hk
    rw [heq]
    refine small_snoc (small_snoc small0 (dateH t0) (by show (bl (B (showT t0))).length ≤ _; rw [blB, showT_len]; decide) (by decide)) _ ?_ (by decide)
    rw [sort0, sign0]
    unfold showB
    simp only [blB, List.length_append, List.length_take, showT_len, sigL_len]
    decide
  have e1 : (attZ [71, 69, 84] [47, 98] [] hs0 [] [97, 49] [115] t0).1 = B [71, 69, 84] := by rw [heq]
  have e2 : (attZ [71, 69, 84] [47, 98] [] hs0 [] [97, 49] [115] t0).2.1 = B [47, 98] := by rw [heq]
  have e3 : (attZ [71, 69, 84] [47, 98] [] hs0 [] [97, 49] [115] t0).2.2.1 = B [] := by rw [heq]
  have e4 : (attZ [71, 69, 84] [47, 98] [] hs0 [] [97, 49] [115] t0).2.2.2.2.1 = [] := by rw [heq]
  have e5 := att0
  have v1 := hv [115] (by decide)
  have v2 := hv [116] (by decide)
  rw [hb] at v1
  rw [hb2] at v2
  clear hatt hb hb2 heq hv
  unfold stelelaw06_alive.f
  change ((sigv4_Attach.f k (B [71, 69, 84]) (B [47, 98]) (B []) hs0 [] (B [97, 49]) (B [115]) t0).bind _) = _
  rw [ha]
  generalize attZ [71, 69, 84] [47, 98] [] hs0 [] [97, 49] [115] t0 = R at *
  obtain ⟨r1, r2, r3, r4, r5, r6⟩ := R
  dsimp only at e1 e2 e3 e4 e5 v1 v2
  subst e1 e2 e3 e4 e5
  rw [Option.bind_some, if_pos rfl]
  change ((sigv4_Verify.f k (B [71, 69, 84]) (B [47, 98]) (B []) r4 [] (B [115]) t0).bind _) = _
  rw [v1, Option.bind_some, if_pos rfl]
  change ((sigv4_Verify.f k (B [71, 69, 84]) (B [47, 98]) (B []) r4 [] (B [116]) t0).bind _) = _
  rw [v2]
  rfl
end Go.Proofs.YtghcadbmjglidaaGreatDoor.Sp
end
section
namespace Go.Proofs.YtghcadbmjglidaaGreatDoor.PSg
open Go.RowKit Go.Proofs.YtghcadbmjglidaaGreatDoorW.PrintWords Go.Proofs.YtghcadbmjglidaaGreatDoorW.PrintLast Go.Proofs.YtghcadbmjglidaaGreatDoorW.PrintMore
attribute [local go_sem] max2_int min2_int max_two min_two max_three min_three max_four min_four
set_option linter.unusedVariables false
set_option linter.unusedSimpArgs false
def stelelaw05_Own.l0 : Nat → Int → ByteArray → ByteArray → ByteArray → List (S52) → List Int → ByteArray → ByteArray → ByteArray → List (S55) → List Int → Option (ByteArray × ByteArray × ByteArray × (List (S55)) × List Int)
  | 0, _, _, _, _, _, _, _, _, _, _, _ => none
  | k + 1, x4, x299000, x299001, x299002, x299003, x299004, x301000, x301001, x301002, x301003, x301004 => if x4 < (x299003.length : Int) then (if 0 ≤ x4 then (if x301003.length < 4398046511104 then (stelelaw05_Own.l0 k (wrap64 (x4 + 1)) x299000 x299001 x299002 x299003 x299004 x301000 x301001 x301002 (x301003 ++ [(⟨(rd_T52 x299003 x4).f0, (rd_T52 x299003 x4).f1⟩ : S55)]) x301004) else (none)) else (none)) else (some (x301000, x301001, x301002, x301003, x301004))
def stelelaw05_Own.f (k : Nat) (a0_0 : ByteArray) (a0_1 : ByteArray) (a0_2 : ByteArray) (l0_3 : List (S52)) (l0_4 : List Int) : Option (ByteArray × ByteArray × ByteArray × (List (S55)) × List Int) := stelelaw05_Own.l0 k 0 a0_0 a0_1 a0_2 l0_3 l0_4 a0_0 a0_1 a0_2 ([] : List (S55)) l0_4
def stelelaw05_Own.T5 : Bool × List (List Nat × List Nat) := (true, [([], []), ([0], [0]), ([], []), ([2], [2]), ([], []), ([3, 4], [3, 4]), ([5], [5]), ([6], [6]), ([], []), ([8], [8]), ([], []), ([9, 10], [9, 10]), ([11], [11]), ([12], [12]), ([7, 13], [7, 13]), ([14], [14]), ([1, 15], [1, 15]), ([0, 1, 2, 3, 4, 5, 6, 7, 8, 9, 10, 11, 12, 13, 14, 15, 16], []), ([17, 16, 16, 0, 1, 2, 3, 4, 5, 6, 7, 8, 9, 10, 11, 12, 13, 14, 15, 16], [16, 17])])
def stelelaw05_Own.B5 : List Nat := [0, 1, 0, 4, 0, 28, 60, 124, 0, 256, 0, 1792, 3840, 7936, 16380, 32764, 65535, 131071, 262143]
theorem stelelaw05_Own.tab5 : rtab .any (opsOf Tryz.f14 5) = stelelaw05_Own.T5 := by kernel_rfl
theorem stelelaw05_Own.bits5 : waitsOk stelelaw05_Own.T5.2 stelelaw05_Own.B5 = true := by kernel_rfl
end Go.Proofs.YtghcadbmjglidaaGreatDoor.PSg
end
section
set_option linter.unusedVariables false
namespace Go.Proofs.YtghcadbmjglidaaGreatDoor.Sp
open Go.RowKit Go.Proofs.YtghcadbmjglidaaGreatDoor.PSg Go.Proofs.YtghcadbmjglidaaGreatDoorW.PrintWords Go.Proofs.YtghcadbmjglidaaGreatDoorW.PrintLast
def wt (x : S52) : Nat := x.f0.size + x.f1.size
theorem rdH (l : List S52) (i : Nat) (h : i < l.length) : rd_T52 l (i : Int) = l[i] := by
  unfold rd_T52
  rw [Int.toNat_natCast, List.getD_eq_getElem?_getD, List.getElem?_eq_getElem h]
  rfl
theorem wadd (a b : Nat) (h : a + b ≤ 4611686018427387904) : wrap64 ((a : Int) + (b : Int)) = ((a + b : Nat) : Int) := by unfold wrap64; omega
theorem light_any (l : List S52) (m p q : ByteArray) (body : List Int) (hl : l.length ≤ 4611686018427387904) : ∀ (d k i : Nat) (acc : Int), d = l.length - i → i ≤ l.length → d < k →
    ∃ b, stelelaw06_light.l0 k acc (i : Int) m p q l body = some b ∧ (b = true → l.length ≤ 100)
  | d, k, i, acc, hd, hi, hk => by
    obtain ⟨k, rfl⟩ : ∃ m, k = m + 1 := ⟨k - 1, by omega⟩
    rw [stelelaw06_light.l0]
    cases d with
    | zero =>
      rw [if_neg (by omega)]
      split
      · exact ⟨_, rfl, fun h => by have := of_decide_eq_true h; omega⟩
      · exact ⟨false, rfl, fun h => by cases h⟩
    | succ d =>
      rw [if_pos (by omega), if_pos (by omega), show wrap64 ((i : Int) + 1) = ((i + 1 : Nat) : Int) by unfold wrap64; omega]
      exact light_any l m p q body hl d k (i + 1) _ (by omega) (by omega) (by omega)
theorem sum_take {α : Type} (f : α → Nat) (l : List α) (i : Nat) (h : i < l.length) : ((l.take (i + 1)).map f).sum = ((l.take i).map f).sum + f l[i] := by
  rw [List.take_succ_eq_append_getElem h, List.map_append, List.sum_append]
  simp
theorem light_few (l : List S52) (m p q : ByteArray) (body : List Int) (hl : l.length ≤ 100) (hs : ∀ x ∈ l, x.f0.size ≤ 140737488351232 ∧ x.f1.size ≤ 140737488351232) (n : Nat) (hn : n ≤ 1000000000000000) : ∀ (d k i : Nat), d = l.length - i → i ≤ l.length → d < k →
    stelelaw06_light.l0 k ((n + ((l.take i).map wt).sum : Nat) : Int) (i : Int) m p q l body = some (decide (n + (l.map wt).sum ≤ 20000))
  | d, k, i, hd, hi, hk => by
    obtain ⟨k, rfl⟩ : ∃ m, k = m + 1 := ⟨k - 1, by omega⟩
    rw [stelelaw06_light.l0]
    cases d with
    | zero =>
      rw [if_neg (by omega), List.take_of_length_le (by omega)]
      by_cases h : n + (l.map wt).sum ≤ 20000
      · rw [if_pos (by omega), decide_eq_true h, decide_eq_true (by omega)]
      · rw [if_neg (by omega), decide_eq_false h]
    | succ d =>
      have hlt : i < l.length := by omega
      have hx := hs _ (List.getElem_mem hlt)
      have hsum := sum_take wt l i hlt
      have hb : ((l.take i).map wt).sum ≤ 281474976702464 * 100 := by
        refine Nat.le_trans (sum_le wt 281474976702464 (l.take i) (fun x hx => ?_)) (Nat.mul_le_mul_left _ (by rw [List.length_take]; omega))
        have := hs x (List.mem_of_mem_take hx)
        unfold wt
        omega
      rw [if_pos (by omega), if_pos (by omega), w1 i (by omega), rdH l i hlt]
      have e : wrap64 (wrap64 (((n + ((l.take i).map wt).sum : Nat) : Int) + (l[i].f0.size : Int)) + (l[i].f1.size : Int)) = ((n + ((l.take (i + 1)).map wt).sum : Nat) : Int) := by
        have hx1 := hx.1
        have hx2 := hx.2
        rw [hsum, wadd _ _ (by omega), wadd _ _ (by omega)]
        unfold wt
        rw [Nat.add_assoc, Nat.add_assoc]
      rw [e]
      exact light_few l m p q body hl hs n hn d k (i + 1) (by omega) (by omega) (by omega)
theorem sum_mem {α : Type} (f : α → Nat) : ∀ (l : List α) (x : α), x ∈ l → f x ≤ (l.map f).sum
  | y :: t, x, h => by
    rw [List.map_cons, List.sum_cons]
    rcases List.mem_cons.1 h with rfl | h
    · omega
    · have := sum_mem f t x h; omega
structure Short (m p q : ByteArray) (l : List S52) (body : List Int) : Prop where
  m : m.size ≤ 20000
  p : p.size ≤ 20000
  q : q.size ≤ 20000
  b : body.length ≤ 20000
  n : l.length ≤ 100
  h : ∀ x ∈ l, x.f0.size ≤ 20000 ∧ x.f1.size ≤ 20000
theorem light_f (l : List S52) (m p q : ByteArray) (body : List Int) (hl : l.length ≤ 140737488351232) (hs : ∀ x ∈ l, x.f0.size ≤ 140737488351232 ∧ x.f1.size ≤ 140737488351232) (hm : m.size ≤ 140737488351232) (hp : p.size ≤ 140737488351232) (hq : q.size ≤ 140737488351232) (hb : body.length ≤ 140737488351232) (k : Nat) (hk : l.length < k) :
    ∃ b, stelelaw06_light.f k m p q l body = some b ∧ (b = true → Short m p q l body) := by
  unfold stelelaw06_light.f
  have e : wrap64 (wrap64 (wrap64 ((m.size : Int) + (p.size : Int)) + (q.size : Int)) + (body.length : Int)) = ((m.size + p.size + q.size + body.length : Nat) : Int) := by
    rw [wadd _ _ (by omega), wadd _ _ (by omega), wadd _ _ (by omega)]
  rw [e]
  by_cases h : l.length ≤ 100
  · have := light_few l m p q body h hs (m.size + p.size + q.size + body.length) (by omega) l.length k 0 rfl (Nat.zero_le _) hk
    rw [List.take_zero, List.map_nil, List.sum_nil, Nat.add_zero] at this
    refine ⟨_, this, fun hd => ?_⟩
    have hd := of_decide_eq_true hd
    refine ⟨by omega, by omega, by omega, by omega, h, fun x hx => ?_⟩
    have := sum_mem wt l x hx
    unfold wt at *
    omega
  · obtain ⟨b, h1, h2⟩ := light_any l m p q body (by omega) l.length k 0 ((m.size + p.size + q.size + body.length : Nat) : Int) rfl (Nat.zero_le _) hk
    exact ⟨b, h1, fun hb => absurd (h2 hb) h⟩
def ownX (x : S52) : S55 := ⟨x.f0, x.f1⟩
theorem own_l0 (l : List S52) (m p q : ByteArray) (body : List Int) (hl : l.length ≤ 1000) : ∀ (d k i : Nat), d = l.length - i → i ≤ l.length → d < k →
    stelelaw05_Own.l0 k (i : Int) m p q l body m p q ((l.take i).map ownX) body = some (m, p, q, l.map ownX, body)
  | d, k, i, hd, hi, hk => by
    obtain ⟨k, rfl⟩ : ∃ m, k = m + 1 := ⟨k - 1, by omega⟩
    rw [stelelaw05_Own.l0]
    cases d with
    | zero => rw [if_neg (by omega), List.take_of_length_le (by omega)]
    | succ d =>
      have hlt : i < l.length := by omega
      rw [if_pos (by omega), if_pos (by omega), if_pos (by rw [List.length_map, List.length_take]; omega), w1 i (by omega), rdH l i hlt]
      have hstep : (l.take i).map ownX ++ [(⟨l[i].f0, l[i].f1⟩ : S55)] = (l.take (i + 1)).map ownX := by
        rw [List.take_succ_eq_append_getElem hlt, List.map_append]; rfl
      rw [hstep]
      exact own_l0 l m p q body hl d k (i + 1) (by omega) (by omega) (by omega)
theorem own_f (l : List S52) (m p q : ByteArray) (body : List Int) (hl : l.length ≤ 1000) (k : Nat) (hk : l.length < k) : stelelaw05_Own.f k m p q l body = some (m, p, q, l.map ownX, body) :=
  own_l0 l m p q body hl l.length k 0 rfl (Nat.zero_le _) hk
theorem blL (b : ByteArray) : (bl b).length = b.size := (Lib.size_eq b).symm
theorem small_own {m p q : ByteArray} {l : List S52} {body : List Int} (h : Short m p q l body) (hb : ∀ x ∈ body, 0 ≤ x ∧ x < 256) : Small (bl m) (bl p) (bl q) (l.map ownX) body := by
  refine ⟨by rw [blL]; have := h.m; omega, by rw [blL]; have := h.p; omega, by rw [blL]; have := h.q; omega, by rw [List.length_map]; have := h.n; omega, fun x hx => ?_, by have := h.b; omega, hb⟩
  obtain ⟨y, hy, rfl⟩ := List.mem_map.1 hx
  have := (h.h y hy).2
  show (bl y.f1).length ≤ _
  rw [blL]
  omega
theorem names_own {m p q : ByteArray} {l : List S52} {body : List Int} (h : Short m p q l body) : ∀ x ∈ l.map ownX, (bl x.f0).length ≤ 1000000 := by
  intro x hx
  obtain ⟨y, hy, rfl⟩ := List.mem_map.1 hx
  have := (h.h y hy).1
  show (bl y.f0).length ≤ _
  rw [blL]
  omega
end Go.Proofs.YtghcadbmjglidaaGreatDoor.Sp
end
section
namespace Go.Proofs.YtghcadbmjglidaaGreatDoor.PSg
open Go.RowKit Go.Proofs.YtghcadbmjglidaaGreatDoorW.PrintWords Go.Proofs.YtghcadbmjglidaaGreatDoorW.PrintLast Go.Proofs.YtghcadbmjglidaaGreatDoorW.PrintMore
attribute [local go_sem] max2_int min2_int max_two min_two max_three min_three max_four min_four
set_option linter.unusedVariables false
set_option linter.unusedSimpArgs false
set_option maxHeartbeats 8000000 in
set_option maxRecDepth 100000 in
theorem stelelaw05_Own_H.calls (k : Nat) (a0_0 : ByteArray) (a0_1 : ByteArray) (a0_2 : ByteArray) (A0_3 : Option Addr) (c0_3 : Nat) (l0_3 : List (S52)) (P0_4_ : Nat → Prop) (A0_4 : Option Addr) (c0_4 : Nat) (l0_4 : List Int) (r1 : ByteArray) (r2 : ByteArray) (r3 : ByteArray) (r4 : List (S55)) (r5 : List Int) (w0 w : World) (hB : Below w0.heap.size w0 w) (hr0_3 : ∀ W_, Kept w W_ (fun k_ => P0_4_ k_) → Kd.C k52 W_ A0_3 l0_3.length l0_3) (hc0_3 : l0_3.length ≤ c0_3) (h : stelelaw05_Own.f k a0_0 a0_1 a0_2 l0_3 l0_4 = some (r1, r2, r3, r4, r5)) :
    Calls Tryz.prog 14 #[.agg #[.string a0_0, .string a0_1, .string a0_2, .slice A0_3 l0_3.length c0_3, .slice A0_4 l0_4.length c0_4]] w fun e w' => ∃ v3_ : Value, e = .returned (.agg #[.string r1, .string r2, .string r3, v3_, .slice A0_4 l0_4.length c0_4]) ∧ Kd.R k55 55 w' w0.heap.size (fun k_ => (P0_4_ k_ ∨ w.heap.size ≤ k_)) v3_ r4 ∧ Below w0.heap.size w0 w' ∧ Kept w w' (fun k_ => P0_4_ k_) := by
  have hu39 := Tryz.underlying39
  have hu44 := Tryz.underlying44
  have hu55 := Tryz.underlying55
  have HR0_3 := Aside0.mk hr0_3
  have HC0_3 := Aside0.mk hc0_3
  clear hr0_3 hc0_3
  have HK := Aside0.mk (Kept.refl w (fun k_ => P0_4_ k_))
  have HW0 := Aside0.mk hB.size
  have HB := Aside0.mk hB
  clear hB
  have H : (stelelaw05_Own.l0 k 0 a0_0 a0_1 a0_2 l0_3 l0_4 a0_0 a0_1 a0_2 ([] : List (S55)) l0_4) = some (r1, r2, r3, r4, r5) := h
  clear h
  have H' := Aside0.mk H
  clear H
  go_enter Tryz.func14, Tryz.ntmps14
  go_wp2_with (first | ((with_reducible refine gate_dst (N := 1) rfl ?_); refine box_event ?hg (N := 1) ?hd (cs := #[.string a0_0, .string a0_1, .string a0_2, .slice A0_3 l0_3.length c0_3, .slice A0_4 l0_4.length c0_4]) (t := 39) ?hr ?_; (case hd => rfl); (case hg => rfl); (case hr => first | (go_simp; done) | (go_simp; rfl)); intro gb298 hg w3 hbox hb; have n1_ := Aside0.mk (Kept.below (S := (fun k_ => P0_4_ k_)) (by repeat (first | (with_reducible first | exact HK.out | apply Kept.alloc | apply Kept.drewN | apply Kept.drew) | exact HK.out)) hb); have n2_ := Aside0.mk (below_step (by repeat (first | (with_reducible first | exact HB.out | apply below_alloc | apply pw_below_drewN | apply below_drew1) | exact HB.out)) hb); have n3_ := Aside0.mk (hbox); have n4_ := Aside0.mk ((by rw [hg]; exact (by first | exact HK.out.1 | exact (show Kept w _ (fun k_ => P0_4_ k_) from by repeat (first | (with_reducible first | exact HK.out | apply Kept.alloc | apply Kept.drewN | apply Kept.drew) | exact HK.out)).1) : w.heap.size ≤ gb298)); have n5_ := Aside0.mk ((by rw [hg]; exact (below_size (by repeat (first | (with_reducible first | exact HB.out | apply below_alloc | apply pw_below_drewN | apply below_drew1) | exact HB.out))) : w0.heap.size ≤ gb298)); clear HK; clear HB; have HK := n1_; have HB := n2_; have BK298 := n3_; have GW298 := n4_; have GE298 := n5_; clear n1_ n2_ n3_ n4_ n5_; clear hb hbox hg) | ((with_reducible refine gate_dst (N := 2) rfl ?_); refine box_event ?hg (N := 2) ?hd (cs := #[.string (⟨#[]⟩ : ByteArray), .string (⟨#[]⟩ : ByteArray), .string (⟨#[]⟩ : ByteArray), .slice none 0 0, .slice none 0 0]) (t := 44) ?hr ?_; (case hd => rfl); (case hg => rfl); (case hr => first | (go_simp; done) | (go_simp; rfl)); intro gb299 hg w4 hbox hb; have n1_ := Aside0.mk (blk_below (g := gb298) (o := .cells #[.string a0_0, .string a0_1, .string a0_2, .slice A0_3 l0_3.length c0_3, .slice A0_4 l0_4.length c0_4] 39 (0, 0)) (by (with_reducible repeat (first | refine blk_drewN ?_ _ | refine blk_drew ?_ | refine blk_alloc ?_ _)); exact BK298.out) hb); have n2_ := Aside0.mk (Kept.below (S := (fun k_ => P0_4_ k_)) (by repeat (first | (with_reducible first | exact HK.out | apply Kept.alloc | apply Kept.drewN | apply Kept.drew | refine Kept.setCell ?_ (.inr GW298.out) _) | exact HK.out)) hb); have n3_ := Aside0.mk (below_step (by repeat (first | (with_reducible first | exact HB.out | apply below_alloc | apply pw_below_drewN | apply below_drew1 | refine below_set ?_ GE298.out) | exact HB.out)) hb); have n4_ := Aside0.mk (hbox); have n5_ := Aside0.mk ((by rw [hg]; exact (by first | exact HK.out.1 | exact (show Kept w _ (fun k_ => P0_4_ k_) from by repeat (first | (with_reducible first | exact HK.out | apply Kept.alloc | apply Kept.drewN | apply Kept.drew | refine Kept.setCell ?_ (.inr GW298.out) _) | exact HK.out)).1) : w.heap.size ≤ gb299)); have n6_ := Aside0.mk ((by rw [hg]; exact (below_size (by repeat (first | (with_reducible first | exact HB.out | apply below_alloc | apply pw_below_drewN | apply below_drew1 | refine below_set ?_ GE298.out) | exact HB.out))) : w0.heap.size ≤ gb299)); have n7_ := Aside0.mk ((by rw [hg]; exact Nat.ne_of_lt (blk_lt (g := gb298) (o := .cells #[.string a0_0, .string a0_1, .string a0_2, .slice A0_3 l0_3.length c0_3, .slice A0_4 l0_4.length c0_4] 39 (0, 0)) (by (with_reducible repeat (first | refine blk_drewN ?_ _ | refine blk_drew ?_ | refine blk_alloc ?_ _)); exact BK298.out)) : gb298 ≠ gb299)); have n8_ := Aside0.mk ((by rw [hg]; exact Nat.ne_of_gt (blk_lt (g := gb298) (o := .cells #[.string a0_0, .string a0_1, .string a0_2, .slice A0_3 l0_3.length c0_3, .slice A0_4 l0_4.length c0_4] 39 (0, 0)) (by (with_reducible repeat (first | refine blk_drewN ?_ _ | refine blk_drew ?_ | refine blk_alloc ?_ _)); exact BK298.out)) : gb299 ≠ gb298)); clear BK298; clear HK; clear HB; have BK298 := n1_; have HK := n2_; have HB := n3_; have BK299 := n4_; have GW299 := n5_; have GE299 := n6_; have NB298_299 := n7_; have NB299_298 := n8_; clear n1_ n2_ n3_ n4_ n5_ n6_ n7_ n8_; clear hb hbox hg; have hnb5 := NB298_299.out; have hnc5 := NB299_298.out; have hcz6_0 : w4.cell? ⟨gb298, 0, none⟩ = some (.string a0_0) := (blk_cell BK298.out 0).trans rfl; have hcz6_1 : w4.cell? ⟨gb298, 1, none⟩ = some (.string a0_1) := (blk_cell BK298.out 1).trans rfl; have hcz6_2 : w4.cell? ⟨gb298, 2, none⟩ = some (.string a0_2) := (blk_cell BK298.out 2).trans rfl; have hcz6_3 : w4.cell? ⟨gb298, 3, none⟩ = some (.slice A0_3 l0_3.length c0_3) := (blk_cell BK298.out 3).trans rfl; have hcz6_4 : w4.cell? ⟨gb298, 4, none⟩ = some (.slice A0_4 l0_4.length c0_4) := (blk_cell BK298.out 4).trans rfl; have hfz6_0 := blk_frozen BK298.out 0; have hfz6_1 := blk_frozen BK298.out 1; have hfz6_2 := blk_frozen BK298.out 2; have hfz6_3 := blk_frozen BK298.out 3; have hfz6_4 := blk_frozen BK298.out 4) | ((with_reducible refine gate_dst (N := 3) rfl ?_); refine box_event ?hg (N := 3) ?hd (cs := #[.string (⟨#[]⟩ : ByteArray), .string (⟨#[]⟩ : ByteArray), .string (⟨#[]⟩ : ByteArray), .slice none 0 0, .slice none 0 0]) (t := 44) ?hr ?_; (case hd => rfl); (case hg => rfl); (case hr => first | (go_simp; done) | (go_simp; rfl)); intro gb300 hg w7 hbox hb; have n1_ := Aside0.mk (blk_below (g := gb298) (o := .cells #[.string a0_0, .string a0_1, .string a0_2, .slice A0_3 l0_3.length c0_3, .slice A0_4 l0_4.length c0_4] 39 (0, 0)) (by (with_reducible repeat (first | refine blk_drewN ?_ _ | refine blk_drew ?_ | refine blk_alloc ?_ _)); exact BK298.out) hb); have n2_ := Aside0.mk (blk_below (g := gb299) (o := .cells #[.string (⟨#[]⟩ : ByteArray), .string (⟨#[]⟩ : ByteArray), .string (⟨#[]⟩ : ByteArray), .slice none 0 0, .slice none 0 0] 44 (0, 0)) (by (with_reducible repeat (first | refine blk_drewN ?_ _ | refine blk_drew ?_ | refine blk_alloc ?_ _)); exact BK299.out) hb); have n3_ := Aside0.mk (Kept.below (S := (fun k_ => P0_4_ k_)) (by repeat (first | (with_reducible first | exact HK.out | apply Kept.alloc | apply Kept.drewN | apply Kept.drew | refine Kept.setCell ?_ (.inr GW298.out) _ | refine Kept.setCell ?_ (.inr GW299.out) _) | exact HK.out)) hb); have n4_ := Aside0.mk (below_step (by repeat (first | (with_reducible first | exact HB.out | apply below_alloc | apply pw_below_drewN | apply below_drew1 | refine below_set ?_ GE298.out | refine below_set ?_ GE299.out) | exact HB.out)) hb); have n5_ := Aside0.mk (hbox); have n6_ := Aside0.mk ((by rw [hg]; exact (by first | exact HK.out.1 | exact (show Kept w _ (fun k_ => P0_4_ k_) from by repeat (first | (with_reducible first | exact HK.out | apply Kept.alloc | apply Kept.drewN | apply Kept.drew | refine Kept.setCell ?_ (.inr GW298.out) _ | refine Kept.setCell ?_ (.inr GW299.out) _) | exact HK.out)).1) : w.heap.size ≤ gb300)); have n7_ := Aside0.mk ((by rw [hg]; exact (below_size (by repeat (first | (with_reducible first | exact HB.out | apply below_alloc | apply pw_below_drewN | apply below_drew1 | refine below_set ?_ GE298.out | refine below_set ?_ GE299.out) | exact HB.out))) : w0.heap.size ≤ gb300)); have n8_ := Aside0.mk ((by rw [hg]; exact Nat.ne_of_lt (blk_lt (g := gb298) (o := .cells #[.string a0_0, .string a0_1, .string a0_2, .slice A0_3 l0_3.length c0_3, .slice A0_4 l0_4.length c0_4] 39 (0, 0)) (by (with_reducible repeat (first | refine blk_drewN ?_ _ | refine blk_drew ?_ | refine blk_alloc ?_ _)); exact BK298.out)) : gb298 ≠ gb300)); have n9_ := Aside0.mk ((by rw [hg]; exact Nat.ne_of_gt (blk_lt (g := gb298) (o := .cells #[.string a0_0, .string a0_1, .string a0_2, .slice A0_3 l0_3.length c0_3, .slice A0_4 l0_4.length c0_4] 39 (0, 0)) (by (with_reducible repeat (first | refine blk_drewN ?_ _ | refine blk_drew ?_ | refine blk_alloc ?_ _)); exact BK298.out)) : gb300 ≠ gb298)); have n10_ := Aside0.mk ((by rw [hg]; exact Nat.ne_of_lt (blk_lt (g := gb299) (o := .cells #[.string (⟨#[]⟩ : ByteArray), .string (⟨#[]⟩ : ByteArray), .string (⟨#[]⟩ : ByteArray), .slice none 0 0, .slice none 0 0] 44 (0, 0)) (by (with_reducible repeat (first | refine blk_drewN ?_ _ | refine blk_drew ?_ | refine blk_alloc ?_ _)); exact BK299.out)) : gb299 ≠ gb300)); have n11_ := Aside0.mk ((by rw [hg]; exact Nat.ne_of_gt (blk_lt (g := gb299) (o := .cells #[.string (⟨#[]⟩ : ByteArray), .string (⟨#[]⟩ : ByteArray), .string (⟨#[]⟩ : ByteArray), .slice none 0 0, .slice none 0 0] 44 (0, 0)) (by (with_reducible repeat (first | refine blk_drewN ?_ _ | refine blk_drew ?_ | refine blk_alloc ?_ _)); exact BK299.out)) : gb300 ≠ gb299)); clear BK298; clear BK299; clear HK; clear HB; have BK298 := n1_; have BK299 := n2_; have HK := n3_; have HB := n4_; have BK300 := n5_; have GW300 := n6_; have GE300 := n7_; have NB298_300 := n8_; have NB300_298 := n9_; have NB299_300 := n10_; have NB300_299 := n11_; clear n1_ n2_ n3_ n4_ n5_ n6_ n7_ n8_ n9_ n10_ n11_; clear hb hbox hg; have hnb8 := NB300_298.out; have hnc8 := NB298_300.out; have hnb9 := NB300_299.out; have hnc9 := NB299_300.out; have hcz10_0 : w7.cell? ⟨gb300, 0, none⟩ = some (.string (⟨#[]⟩ : ByteArray)) := (blk_cell BK300.out 0).trans rfl; have hcz10_1 : w7.cell? ⟨gb300, 1, none⟩ = some (.string (⟨#[]⟩ : ByteArray)) := (blk_cell BK300.out 1).trans rfl; have hcz10_2 : w7.cell? ⟨gb300, 2, none⟩ = some (.string (⟨#[]⟩ : ByteArray)) := (blk_cell BK300.out 2).trans rfl; have hcz10_3 : w7.cell? ⟨gb300, 3, none⟩ = some (.slice none 0 0) := (blk_cell BK300.out 3).trans rfl; have hcz10_4 : w7.cell? ⟨gb300, 4, none⟩ = some (.slice none 0 0) := (blk_cell BK300.out 4).trans rfl; have hfz10_0 := blk_frozen BK300.out 0; have hfz10_1 := blk_frozen BK300.out 1; have hfz10_2 := blk_frozen BK300.out 2; have hfz10_3 := blk_frozen BK300.out 3; have hfz10_4 := blk_frozen BK300.out 4))
  go_loopg [4] k (fun kq v4 w' => ∃ (x4_1 : Int) (x301003_1 : List (S55)) (u301003 : Value), v4 = .int .i64 x4_1 ∧ Aside0 (stelelaw05_Own.l0 kq x4_1 a0_0 a0_1 a0_2 l0_3 l0_4 a0_0 a0_1 a0_2 x301003_1 l0_4 = some (r1, r2, r3, r4, r5)) ∧ Aside0 (kq ≤ k) ∧ Aside0 (Kd.R k55 55 w' w0.heap.size (fun k_ => (P0_4_ k_ ∨ w.heap.size ≤ k_)) u301003 x301003_1) ∧ Aside0 (w'.heap[gb298]? = some (.cells #[.string a0_0, .string a0_1, .string a0_2, (.slice A0_3 l0_3.length c0_3), (.slice A0_4 l0_4.length c0_4)] 39 (0, 0))) ∧ Aside0 (w'.heap[gb299]? = some (.cells #[.string (⟨#[]⟩ : ByteArray), .string (⟨#[]⟩ : ByteArray), .string (⟨#[]⟩ : ByteArray), (.slice none 0 0), (.slice none 0 0)] 44 (0, 0))) ∧ Aside0 (w'.heap[gb300]? = some (.cells #[.string a0_0, .string a0_1, .string a0_2, u301003, (.slice A0_4 l0_4.length c0_4)] 44 (0, 0))) ∧ Aside0 (Kept w w' (fun k_ => P0_4_ k_)) ∧ Aside0 (Below w0.heap.size w0 w'))
  case atStart => exact ⟨(0), (([] : List (S55))), (.slice none 0 0), (by first | rfl | (simp; done) | (simp [*]; done)), H', ⟨Nat.le_refl _⟩, ⟨by first | exact Kd.R_nil _ _ _ _ _ | exact Kd.N_nil _ _ _ _ _ | exact Kd.V_nil _ _ _ _ _ | exact Kd.Q_nil _ _ _ _ _ | exact Kd.S_nil _ _ _ _ _⟩, ⟨by (with_reducible repeat (first | refine blk_drewN ?_ _ | refine blk_drew ?_ | refine blk_alloc ?_ _)); refine blk_far ?_ NB298_300.out _; (with_reducible repeat (first | refine blk_drewN ?_ _ | refine blk_drew ?_ | refine blk_alloc ?_ _)); refine blk_far ?_ NB298_300.out _; (with_reducible repeat (first | refine blk_drewN ?_ _ | refine blk_drew ?_ | refine blk_alloc ?_ _)); refine blk_far ?_ NB298_300.out _; (with_reducible repeat (first | refine blk_drewN ?_ _ | refine blk_drew ?_ | refine blk_alloc ?_ _)); refine blk_far ?_ NB298_300.out _; (with_reducible repeat (first | refine blk_drewN ?_ _ | refine blk_drew ?_ | refine blk_alloc ?_ _)); refine blk_far ?_ NB298_300.out _; (with_reducible repeat (first | refine blk_drewN ?_ _ | refine blk_drew ?_ | refine blk_alloc ?_ _)); exact BK298.out⟩, ⟨by (with_reducible repeat (first | refine blk_drewN ?_ _ | refine blk_drew ?_ | refine blk_alloc ?_ _)); refine blk_far ?_ NB299_300.out _; (with_reducible repeat (first | refine blk_drewN ?_ _ | refine blk_drew ?_ | refine blk_alloc ?_ _)); refine blk_far ?_ NB299_300.out _; (with_reducible repeat (first | refine blk_drewN ?_ _ | refine blk_drew ?_ | refine blk_alloc ?_ _)); refine blk_far ?_ NB299_300.out _; (with_reducible repeat (first | refine blk_drewN ?_ _ | refine blk_drew ?_ | refine blk_alloc ?_ _)); refine blk_far ?_ NB299_300.out _; (with_reducible repeat (first | refine blk_drewN ?_ _ | refine blk_drew ?_ | refine blk_alloc ?_ _)); refine blk_far ?_ NB299_300.out _; (with_reducible repeat (first | refine blk_drewN ?_ _ | refine blk_drew ?_ | refine blk_alloc ?_ _)); exact BK299.out⟩, ⟨by (with_reducible repeat (first | refine blk_drewN ?_ _ | refine blk_drew ?_ | refine blk_alloc ?_ _)); refine blk_put (cs := #[.string a0_0, .string a0_1, .string a0_2, .slice none 0 0, .slice none 0 0]) ?_ 4 _ rfl; (with_reducible repeat (first | refine blk_drewN ?_ _ | refine blk_drew ?_ | refine blk_alloc ?_ _)); refine blk_put (cs := #[.string a0_0, .string a0_1, .string a0_2, .slice none 0 0, .slice none 0 0]) ?_ 3 _ rfl; (with_reducible repeat (first | refine blk_drewN ?_ _ | refine blk_drew ?_ | refine blk_alloc ?_ _)); refine blk_put (cs := #[.string a0_0, .string a0_1, .string (⟨#[]⟩ : ByteArray), .slice none 0 0, .slice none 0 0]) ?_ 2 _ rfl; (with_reducible repeat (first | refine blk_drewN ?_ _ | refine blk_drew ?_ | refine blk_alloc ?_ _)); refine blk_put (cs := #[.string a0_0, .string (⟨#[]⟩ : ByteArray), .string (⟨#[]⟩ : ByteArray), .slice none 0 0, .slice none 0 0]) ?_ 1 _ rfl; (with_reducible repeat (first | refine blk_drewN ?_ _ | refine blk_drew ?_ | refine blk_alloc ?_ _)); refine blk_put (cs := #[.string (⟨#[]⟩ : ByteArray), .string (⟨#[]⟩ : ByteArray), .string (⟨#[]⟩ : ByteArray), .slice none 0 0, .slice none 0 0]) ?_ 0 _ rfl; (with_reducible repeat (first | refine blk_drewN ?_ _ | refine blk_drew ?_ | refine blk_alloc ?_ _)); exact BK300.out⟩, ⟨by repeat (first | (with_reducible first | exact HK.out | apply Kept.alloc | apply Kept.drewN | apply Kept.drew | refine Kept.setCell ?_ (.inr GW298.out) _ | refine Kept.setCell ?_ (.inr GW299.out) _ | refine Kept.setCell ?_ (.inr GW300.out) _) | exact HK.out)⟩, ⟨by repeat (first | (with_reducible first | exact HB.out | apply below_alloc | apply pw_below_drewN | apply below_drew1 | refine below_set ?_ GE298.out | refine below_set ?_ GE299.out | refine below_set ?_ GE300.out) | exact HB.out)⟩⟩
  case round =>
    clear H'
    try clear c1
    try clear p2
    try clear c5
    try clear c8
    try clear c9
    try clear hcz10_0
    try clear hcz10_1
    try clear hcz10_2
    try clear hcz10_3
    try clear hcz10_4
    try clear hcz6_0
    try clear hcz6_1
    try clear hcz6_2
    try clear hcz6_3
    try clear hcz6_4
    try clear hfz10_0
    try clear hfz10_1
    try clear hfz10_2
    try clear hfz10_3
    try clear hfz10_4
    try clear hfz6_0
    try clear hfz6_1
    try clear hfz6_2
    try clear hfz6_3
    try clear hfz6_4
    obtain ⟨x4_1, x301003_1, u301003, rfl, HA, HK1, HO_301003, BK298, BK299, BK300, HK, HB⟩ := hrel
    cases gk with
    | zero => exact absurd HA.out (by simp [stelelaw05_Own.l0])
    | succ k1 =>
      have H := HA.out
      clear HA
      simp only [stelelaw05_Own.l0] at H
      by_cases c11 : x4_1 < (l0_3.length : Int)
      · rw [if_pos c11] at H
        have c11b0 : decide (x4_1 < (l0_3.length : Int)) = true := decide_eq_true c11
        clear c11
        by_cases c12 : 0 ≤ x4_1
        · rw [if_pos c12] at H
          have c12b0 : decide (0 ≤ x4_1) = true := decide_eq_true c12
          clear c12
          by_cases c13 : x301003_1.length < 4398046511104
          · rw [if_pos c13] at H
            have LMc13 := Aside0.mk c13
            clear c13
            obtain ⟨y303, hy303⟩ : ∃ y_ : List (S55), y_ = (x301003_1 ++ [(⟨(rd_T52 l0_3 x4_1).f0, (rd_T52 l0_3 x4_1).f1⟩ : S55)]) := ⟨_, rfl⟩
            replace H : (stelelaw05_Own.l0 k1 (wrap64 (x4_1 + 1)) a0_0 a0_1 a0_2 l0_3 l0_4 a0_0 a0_1 a0_2 y303 l0_4) = some (r1, r2, r3, r4, r5) := by first | (rw [hy303]; with_reducible exact H) | (have H2_ := (Option.bind_some _ _).symm.trans H; rw [hy303]; with_reducible exact H2_) | (have H2_ := (Option.bind_some _ _).symm.trans H; with_reducible exact H2_) | with_reducible exact H | (rw [hy303]; exact H) | exact H
            have Ny303 := Aside0.mk hy303
            clear hy303
            have H' := Aside0.mk H
            clear H
            have hnb14 := NB298_299.out
            have hnc14 := NB299_298.out
            have hnb15 := NB298_300.out
            have hnc15 := NB300_298.out
            have hcz16_0 : wr.cell? ⟨gb298, 0, none⟩ = some (.string a0_0) := (blk_cell BK298.out 0).trans rfl
            have hcz16_1 : wr.cell? ⟨gb298, 1, none⟩ = some (.string a0_1) := (blk_cell BK298.out 1).trans rfl
            have hcz16_2 : wr.cell? ⟨gb298, 2, none⟩ = some (.string a0_2) := (blk_cell BK298.out 2).trans rfl
            have hcz16_3 : wr.cell? ⟨gb298, 3, none⟩ = some (.slice A0_3 l0_3.length c0_3) := (blk_cell BK298.out 3).trans rfl
            have hcz16_4 : wr.cell? ⟨gb298, 4, none⟩ = some (.slice A0_4 l0_4.length c0_4) := (blk_cell BK298.out 4).trans rfl
            have hfz16_0 := blk_frozen BK298.out 0
            have hfz16_1 := blk_frozen BK298.out 1
            have hfz16_2 := blk_frozen BK298.out 2
            have hfz16_3 := blk_frozen BK298.out 3
            have hfz16_4 := blk_frozen BK298.out 4
            try go_wp2
            have n1_ := Aside0.mk (Kd.R_drew HO_301003.out)
            have n3_ := Aside0.mk (blk_drew BK298.out)
            have n4_ := Aside0.mk (blk_drew BK299.out)
            have n5_ := Aside0.mk (blk_drew BK300.out)
            have n6_ := Aside0.mk (Kept.drew HK.out)
            have n7_ := Aside0.mk (below_drew1 HB.out)
            clear HO_301003
            clear BK298
            clear BK299
            clear BK300
            clear HK
            clear HB
            have HO_301003 := n1_
            have BK298 := n3_
            have BK299 := n4_
            have BK300 := n5_
            have HK := n6_
            have HB := n7_
            clear n1_ n3_ n4_ n5_ n6_ n7_
            have p301 : 0 ≤ (x4_1 : Int) := of_decide_eq_true (by first | (with_reducible assumption) | assumption)
            have q301 : x4_1 < (l0_3.length : Int) := of_decide_eq_true (by first | (with_reducible assumption) | assumption)
            obtain ⟨ad301, e301, hx301_0, hx301_1⟩ := at_T52 (Kd.C_kept_now HR0_3.out HK.out) x4_1 p301 q301
            have hw301_1 := hx301_1
            have hw301_0 := hx301_0
            cases e301
            replace p301 := eq_true p301
            replace q301 := eq_true q301
            have p302 : 0 ≤ (x4_1 : Int) := of_decide_eq_true (by first | (with_reducible assumption) | assumption)
            have q302 : x4_1 < (l0_3.length : Int) := of_decide_eq_true (by first | (with_reducible assumption) | assumption)
            obtain ⟨ad302, e302, hx302_0, hx302_1⟩ := at_T52 (Kd.C_kept_now HR0_3.out HK.out) x4_1 p302 q302
            have hw302_1 := hx302_1
            have hw302_0 := hx302_0
            obtain rfl : ad301 = ad302 := (by injection e302)
            replace p302 := eq_true p302
            replace q302 := eq_true q302
            refine start_ (n := 19) (S := fun w' => w'.cell? ⟨gb300, 0, none⟩ = some (.string a0_0) ∧ w'.cell? ⟨gb300, 1, none⟩ = some (.string a0_1) ∧ w'.cell? ⟨gb300, 2, none⟩ = some (.string a0_2) ∧ w'.cell? ⟨gb300, 3, none⟩ = some (u301003) ∧ w'.cell? ⟨gb300, 4, none⟩ = some (.slice A0_4 l0_4.length c0_4) ∧ w'.cell? ⟨gb298, 0, none⟩ = some (.string a0_0) ∧ w'.cell? ⟨gb298, 1, none⟩ = some (.string a0_1) ∧ w'.cell? ⟨gb298, 2, none⟩ = some (.string a0_2) ∧ w'.cell? ⟨gb298, 3, none⟩ = some (.slice (some ad301) l0_3.length c0_3) ∧ w'.cell? ⟨gb298, 4, none⟩ = some (.slice A0_4 l0_4.length c0_4) ∧ w'.cell? (ad301.add ((x4_1).toNat * 2)) = some (.string ((rd_T52 l0_3 x4_1).f0)) ∧ w'.cell? ⟨(ad301.add ((x4_1).toNat * 2)).block, (ad301.add ((x4_1).toNat * 2)).off + 1, none⟩ = some (.string ((rd_T52 l0_3 x4_1).f1)) ∧ w'.cell? (ad301.add ((x4_1).toNat * 2)) = some (.string ((rd_T52 l0_3 x4_1).f0)) ∧ w'.cell? ⟨(ad301.add ((x4_1).toNat * 2)).block, (ad301.add ((x4_1).toNat * 2)).off + 1, none⟩ = some (.string ((rd_T52 l0_3 x4_1).f1))) (ds := [16, 18]) #[false, false, false, false, false, false, false, false, false, false, false, false, false, false, false, false, false, false, false] (by kernel_rfl) rfl rfl ⟨(blk_cell BK300.out 0).trans rfl, (blk_cell BK300.out 1).trans rfl, (blk_cell BK300.out 2).trans rfl, (blk_cell BK300.out 3).trans rfl, (blk_cell BK300.out 4).trans rfl, (blk_cell BK298.out 0).trans rfl, (blk_cell BK298.out 1).trans rfl, (blk_cell BK298.out 2).trans rfl, (blk_cell BK298.out 3).trans rfl, (blk_cell BK298.out 4).trans rfl, hx301_0, hx301_1, hx302_0, hx302_1⟩ (fun hHeld => ?_); refine with_tabW stelelaw05_Own.tab5 stelelaw05_Own.bits5 (fun HT_ HW_ => ?_)
            generalize wr.drew = w17 at HO_301003 BK298 BK299 BK300 HK HB hx301_0 hx301_1 hx302_0 hx302_1 hHeld ⊢
            refine pure_ (i := 0) (N := some 21) (v := ?_) (a' := ?_) #[true, false, false, false, false, false, false, false, false, false, false, false, false, false, false, false, false, false, false] rfl rfl (any_of HT_.out (by kernel_rfl)) (fun _ _ _ h => h) (Or.inl ⟨by rfl, ?_⟩) ?_ ?_
            rotate_left
            · intro w'
              go_simp
              with_reducible rfl
            rotate_left
            · simp only [Act.put, spx_]
              rfl
            refine pure_ (i := 2) (N := some 23) (v := ?_) (a' := ?_) #[true, false, true, false, false, false, false, false, false, false, false, false, false, false, false, false, false, false, false] rfl rfl (any_of HT_.out (by kernel_rfl)) (fun _ _ _ h => h) (Or.inl ⟨by rfl, ?_⟩) ?_ ?_
            rotate_left
            · intro w'
              go_simp
              with_reducible rfl
            rotate_left
            · simp only [Act.put, spx_]
              rfl
            refine pure_ (i := 4) (N := some 25) (v := ?_) (a' := ?_) #[true, false, true, false, true, false, false, false, false, false, false, false, false, false, false, false, false, false, false] rfl rfl (any_of HT_.out (by kernel_rfl)) (fun _ _ _ h => h) (Or.inl ⟨by rfl, ?_⟩) ?_ ?_
            rotate_left
            · intro w'
              go_simp
              with_reducible rfl
            rotate_left
            · simp only [Act.put, spx_]
              rfl
            refine pure_ (i := 8) (N := some 29) (v := ?_) (a' := ?_) #[true, false, true, false, true, false, false, false, true, false, false, false, false, false, false, false, false, false, false] rfl rfl (any_of HT_.out (by kernel_rfl)) (fun _ _ _ h => h) (Or.inl ⟨by rfl, ?_⟩) ?_ ?_
            rotate_left
            · intro w'
              go_simp
              with_reducible rfl
            rotate_left
            · simp only [Act.put, spx_]
              rfl
            refine pure_ (i := 10) (N := some 31) (v := ?_) (a' := ?_) #[true, false, true, false, true, false, false, false, true, false, true, false, false, false, false, false, false, false, false] rfl rfl (any_of HT_.out (by kernel_rfl)) (fun _ _ _ h => h) (Or.inl ⟨by rfl, ?_⟩) ?_ ?_
            rotate_left
            · intro w'
              go_simp
              with_reducible rfl
            rotate_left
            · simp only [Act.put, spx_]
              rfl
            refine take_ (i := 1) (N := some 22) (v := ?_) (a' := ?_) #[true, true, true, false, true, false, false, false, true, false, true, false, false, false, false, false, false, false, false] rfl rfl (take_ofW HT_.out HW_.out (by kernel_rfl)) (fun _ _ _ h => h) (Or.inl ⟨by rfl, ?_⟩) hHeld ?_ ?_
            rotate_left
            · rintro w' ⟨s0, s1, s2, s3, s4, s5, s6, s7, s8, s9, s10, s11, s12, s13⟩
              go_simp
              with_reducible rfl
            rotate_left
            · simp only [Act.put, spx_]
              rfl
            refine take_ (i := 3) (N := some 24) (v := ?_) (a' := ?_) #[true, true, true, true, true, false, false, false, true, false, true, false, false, false, false, false, false, false, false] rfl rfl (take_ofW HT_.out HW_.out (by kernel_rfl)) (fun _ _ _ h => h) (Or.inl ⟨by rfl, ?_⟩) hHeld ?_ ?_
            rotate_left
            · rintro w' ⟨s0, s1, s2, s3, s4, s5, s6, s7, s8, s9, s10, s11, s12, s13⟩
              go_simp
              with_reducible rfl
            rotate_left
            · simp only [Act.put, spx_]
              rfl
            refine pure_ (i := 5) (N := some 26) (v := ?_) (a' := ?_) #[true, true, true, true, true, true, false, false, true, false, true, false, false, false, false, false, false, false, false] rfl rfl (any_of HT_.out (by kernel_rfl)) (fun _ _ _ h => h) (Or.inl ⟨by rfl, ?_⟩) ?_ ?_
            rotate_left
            · intro w'
              go_simp
              with_reducible rfl
            rotate_left
            · simp only [Act.put, spx_]
              rfl
            refine pure_ (i := 6) (N := some 27) (v := ?_) (a' := ?_) #[true, true, true, true, true, true, true, false, true, false, true, false, false, false, false, false, false, false, false] rfl rfl (any_of HT_.out (by kernel_rfl)) (fun _ _ _ h => h) (Or.inl ⟨by rfl, ?_⟩) ?_ ?_
            rotate_left
            · intro w'
              go_simp
              with_reducible rfl
            rotate_left
            · simp only [Act.put, spx_]
              rfl
            refine take_ (i := 7) (N := some 28) (v := ?_) (a' := ?_) #[true, true, true, true, true, true, true, true, true, false, true, false, false, false, false, false, false, false, false] rfl rfl (take_ofW HT_.out HW_.out (by kernel_rfl)) (fun _ _ _ h => h) (Or.inl ⟨by rfl, ?_⟩) hHeld ?_ ?_
            rotate_left
            · rintro w' ⟨s0, s1, s2, s3, s4, s5, s6, s7, s8, s9, s10, s11, s12, s13⟩
              go_simp
              with_reducible rfl
            rotate_left
            · simp only [Act.put, spx_]
              rfl
            refine take_ (i := 9) (N := some 30) (v := ?_) (a' := ?_) #[true, true, true, true, true, true, true, true, true, true, true, false, false, false, false, false, false, false, false] rfl rfl (take_ofW HT_.out HW_.out (by kernel_rfl)) (fun _ _ _ h => h) (Or.inl ⟨by rfl, ?_⟩) hHeld ?_ ?_
            rotate_left
            · rintro w' ⟨s0, s1, s2, s3, s4, s5, s6, s7, s8, s9, s10, s11, s12, s13⟩
              go_simp
              with_reducible rfl
            rotate_left
            · simp only [Act.put, spx_]
              rfl
            refine pure_ (i := 11) (N := some 32) (v := ?_) (a' := ?_) #[true, true, true, true, true, true, true, true, true, true, true, true, false, false, false, false, false, false, false] rfl rfl (any_of HT_.out (by kernel_rfl)) (fun _ _ _ h => h) (Or.inl ⟨by rfl, ?_⟩) ?_ ?_
            rotate_left
            · intro w'
              go_simp
              with_reducible rfl
            rotate_left
            · simp only [Act.put, spx_]
              rfl
            refine pure_ (i := 12) (N := some 33) (v := ?_) (a' := ?_) #[true, true, true, true, true, true, true, true, true, true, true, true, true, false, false, false, false, false, false] rfl rfl (any_of HT_.out (by kernel_rfl)) (fun _ _ _ h => h) (Or.inl ⟨by rfl, ?_⟩) ?_ ?_
            rotate_left
            · intro w'
              go_simp
              with_reducible rfl
            rotate_left
            · simp only [Act.put, spx_]
              rfl
            refine take_ (i := 13) (N := some 34) (v := ?_) (a' := ?_) #[true, true, true, true, true, true, true, true, true, true, true, true, true, true, false, false, false, false, false] rfl rfl (take_ofW HT_.out HW_.out (by kernel_rfl)) (fun _ _ _ h => h) (Or.inl ⟨by rfl, ?_⟩) hHeld ?_ ?_
            rotate_left
            · rintro w' ⟨s0, s1, s2, s3, s4, s5, s6, s7, s8, s9, s10, s11, s12, s13⟩
              go_simp
              with_reducible rfl
            rotate_left
            · simp only [Act.put, spx_]
              rfl
            refine pure_ (i := 14) (N := some 35) (v := ?_) (a' := ?_) #[true, true, true, true, true, true, true, true, true, true, true, true, true, true, true, false, false, false, false] rfl rfl (any_of HT_.out (by kernel_rfl)) (fun _ _ _ h => h) (Or.inl ⟨by rfl, ?_⟩) ?_ ?_
            rotate_left
            · intro w'
              go_simp
              with_reducible rfl
            rotate_left
            · simp only [Act.put, spx_]
              rfl
            refine one_ (i := 15) (N := some 36) #[true, true, true, true, true, true, true, true, true, true, true, true, true, true, true, true, false, false, false] rfl rfl (one_of HT_.out (by kernel_rfl)) (by decide) (fun K hK => ?_)
            refine value_ (w1 := ?_) (v := ?_) (by rfl) rfl ?_ ?_
            rotate_left 2
            · go_simp
              constructor
              · rfl
              · rfl
            refine hK.out _ _ ⟨(blk_cell (blk_alloc BK300.out _) 0).trans rfl, (blk_cell (blk_alloc BK300.out _) 1).trans rfl, (blk_cell (blk_alloc BK300.out _) 2).trans rfl, (blk_cell (blk_alloc BK300.out _) 3).trans rfl, (blk_cell (blk_alloc BK300.out _) 4).trans rfl, (blk_cell (blk_alloc BK298.out _) 0).trans rfl, (blk_cell (blk_alloc BK298.out _) 1).trans rfl, (blk_cell (blk_alloc BK298.out _) 2).trans rfl, (blk_cell (blk_alloc BK298.out _) 3).trans rfl, (blk_cell (blk_alloc BK298.out _) 4).trans rfl, (World.cell?_alloc_lt _ _ _ (World.block_lt_of_cell? _ _ (hHeld.2.2.2.2.2.2.2.2.2.2.1))).trans (hHeld.2.2.2.2.2.2.2.2.2.2.1), (World.cell?_alloc_lt _ _ _ (World.block_lt_of_cell? _ _ (hHeld.2.2.2.2.2.2.2.2.2.2.2.1))).trans (hHeld.2.2.2.2.2.2.2.2.2.2.2.1), (World.cell?_alloc_lt _ _ _ (World.block_lt_of_cell? _ _ (hHeld.2.2.2.2.2.2.2.2.2.2.2.2.1))).trans (hHeld.2.2.2.2.2.2.2.2.2.2.2.2.1), (World.cell?_alloc_lt _ _ _ (World.block_lt_of_cell? _ _ (hHeld.2.2.2.2.2.2.2.2.2.2.2.2.2))).trans (hHeld.2.2.2.2.2.2.2.2.2.2.2.2.2)⟩ (fun hHeld => ?_)
            clear hK K
            refine norm_ (a' := ?_) ?_ ?_
            rotate_left
            · show Act.put _ (some 36) _ = _
              simp only [Act.put, spx_]
              rfl
            refine last_ (i := 16) (N := some 37) #[true, true, true, true, true, true, true, true, true, true, true, true, true, true, true, true, true, false, false] rfl rfl (one_of HT_.out (by kernel_rfl)) (by decide) (fun K hK => ?_)
            refine Kd.R_append_step k55 (w0 := w0) w0.heap.size (by rfl) (.tmp 22) (.tmp 36) 42 55 (.agg #[(.string ⟨#[]⟩), (.string ⟨#[]⟩)]) 32 rfl Tryz.underlying42 info55 rfl (by decide) (by omega) u301003 x301003_1 (⟨(rd_T52 l0_3 x4_1).f0, (rd_T52 l0_3 x4_1).f1⟩ : S55) [.string ((rd_T52 l0_3 x4_1).f0), .string ((rd_T52 l0_3 x4_1).f1)] (fun k_ => (P0_4_ k_ ∨ w.heap.size ≤ k_)) (fun _ => False) rfl rfl ?aP (fun _ hk => hk.elim) ?aF ?aO ?aB ?aS ?aL ?_
            (case aP => exact k55_mkM _ _ _ (⟨(rd_T52 l0_3 x4_1).f0, (rd_T52 l0_3 x4_1).f1⟩ : S55))
            (case aB => exact (by repeat (first | (with_reducible first | exact HB.out | apply below_alloc | apply pw_below_drewN | apply below_drew1 | refine below_set ?_ GE298.out | refine below_set ?_ GE299.out | refine below_set ?_ GE300.out) | exact HB.out)))
            (case aF => exact (fun k_ hk => (.inr (Nat.le_trans (by first | exact HK.out.1 | exact (show Kept w _ (fun k_ => P0_4_ k_) from by repeat (first | (with_reducible first | exact HK.out | apply Kept.alloc | apply Kept.drewN | apply Kept.drew | refine Kept.setCell ?_ (.inr GW298.out) _ | refine Kept.setCell ?_ (.inr GW299.out) _ | refine Kept.setCell ?_ (.inr GW300.out) _) | exact HK.out)).1) hk))))
            (case aO => exact (by (with_reducible repeat (first | apply Kd.R_alloc | apply Kd.R_drewN | apply Kd.R_drew)); exact HO_301003.out))
            (case aS => exact (below_size (by repeat (first | (with_reducible first | exact HB.out | apply below_alloc | apply pw_below_drewN | apply below_drew1 | refine below_set ?_ GE298.out | refine below_set ?_ GE299.out | refine below_set ?_ GE300.out) | exact HB.out))))
            (case aL => have := LMc13.out; omega)
            intro v304 w18 ho hb hg hat
            rw [← Ny303.out] at ho
            have n2_ := Aside0.mk (blk_grown (g := gb298) (o := .cells #[.string a0_0, .string a0_1, .string a0_2, .slice (some ad301) l0_3.length c0_3, .slice A0_4 l0_4.length c0_4] 39 (0, 0)) (by (with_reducible repeat (first | refine blk_drewN ?_ _ | refine blk_drew ?_ | refine blk_alloc ?_ _)); exact BK298.out) hg (Kd.R_ne HO_301003.out BK298.out (by decide)))
            have n3_ := Aside0.mk (blk_grown (g := gb299) (o := .cells #[.string (⟨#[]⟩ : ByteArray), .string (⟨#[]⟩ : ByteArray), .string (⟨#[]⟩ : ByteArray), .slice none 0 0, .slice none 0 0] 44 (0, 0)) (by (with_reducible repeat (first | refine blk_drewN ?_ _ | refine blk_drew ?_ | refine blk_alloc ?_ _)); exact BK299.out) hg (Kd.R_ne HO_301003.out BK299.out (by decide)))
            have n4_ := Aside0.mk (blk_grown (g := gb300) (o := .cells #[.string a0_0, .string a0_1, .string a0_2, u301003, .slice A0_4 l0_4.length c0_4] 44 (0, 0)) (by (with_reducible repeat (first | refine blk_drewN ?_ _ | refine blk_drew ?_ | refine blk_alloc ?_ _)); exact BK300.out) hg (Kd.R_ne HO_301003.out BK300.out (by decide)))
            have n5_ := Aside0.mk (hb)
            have n6_ := Aside0.mk (Kept.of_grown (S := (fun k_ => P0_4_ k_)) hg (by repeat (first | (with_reducible first | exact HK.out | apply Kept.alloc | apply Kept.drewN | apply Kept.drew | refine Kept.setCell ?_ (.inr GW298.out) _ | refine Kept.setCell ?_ (.inr GW299.out) _ | refine Kept.setCell ?_ (.inr GW300.out) _) | exact HK.out)) (fun k_ e_ => (HO_301003.out.1 k_ e_)))
            have n7_ := Aside0.mk (ho)
            clear BK298
            clear BK299
            clear BK300
            clear HB
            clear HK
            clear HO_301003
            have BK298 := n2_
            have BK299 := n3_
            have BK300 := n4_
            have HB := n5_
            have HK := n6_
            have HO305 := n7_
            clear n2_ n3_ n4_ n5_ n6_ n7_
            clear ho hb hg hat
            obtain ⟨Ao19, co19, eo19⟩ := Kd.R_slice HO305.out
            (first | subst eo19 | (injection eo19 with f1_ f2_ f3_; have f4_ := f1_.symm; have f5_ := f3_.symm; clear f1_ f2_ f3_; subst f4_; subst f5_))
            refine hK.out _ _ ?_
            clear hK K
            refine norm_ (a' := ?_) ?_ ?_
            rotate_left
            · show Act.put _ (some 37) _ = _
              simp only [Act.put, spx_]
              rfl
            refine pure_ (i := 17) (N := some 38) (v := ?_) (a' := ?_) #[true, true, true, true, true, true, true, true, true, true, true, true, true, true, true, true, true, true, false] rfl rfl (any_of HT_.out (by kernel_rfl)) (fun _ _ _ h => h) (Or.inl ⟨by rfl, ?_⟩) ?_ ?_
            rotate_left
            · intro w'
              go_simp
              with_reducible rfl
            rotate_left
            · simp only [Act.put, spx_]
              rfl
            refine last_ (i := 18) (N := none) #[true, true, true, true, true, true, true, true, true, true, true, true, true, true, true, true, true, true, true] rfl rfl (one_of HT_.out (by kernel_rfl)) (by decide) (fun K hK => ?_)
            have hs20 : w18.cell? ⟨gb300, 3, none⟩ = some (u301003) := (blk_cell BK300.out 3).trans rfl
            have hfs20 := blk_frozen BK300.out 3
            have hns20_0 := NB298_300.out
            have hns20_1 := NB299_300.out
            have hms20_0 := NB300_298.out
            have hms20_1 := NB300_299.out
            refine skip_ (w1 := ?_) (by rfl) rfl ?_ ?_
            rotate_left
            · go_simp
              rfl
            refine hK.out _ _ ?_
            clear hK K
            refine done_ (done_of HT_.out (by kernel_rfl)) ?_
            try go_wp2
            go_roundg k1
            case measure => have := HK1.out; omega
            case rel => exact ⟨(wrap64 (x4_1 + 1)), (y303), (.slice Ao19 y303.length co19), (by first | rfl | (simp; done) | (simp [*]; done)), H', ⟨by have := HK1.out; omega⟩, ⟨by (with_reducible repeat (first | apply Kd.R_alloc | apply Kd.R_drewN | apply Kd.R_drew)); exact Kd.R_mono (Kd.R_far (p := ⟨gb300, 3, none⟩) (Kd.R_types HO305.out BK300.out (by decide)) (fun _ hk => hk.2) (.slice Ao19 y303.length co19)) (fun _ hk => hk.1)⟩, ⟨by (with_reducible repeat (first | refine blk_drewN ?_ _ | refine blk_drew ?_ | refine blk_alloc ?_ _)); refine blk_far ?_ NB298_300.out _; (with_reducible repeat (first | refine blk_drewN ?_ _ | refine blk_drew ?_ | refine blk_alloc ?_ _)); exact BK298.out⟩, ⟨by (with_reducible repeat (first | refine blk_drewN ?_ _ | refine blk_drew ?_ | refine blk_alloc ?_ _)); refine blk_far ?_ NB299_300.out _; (with_reducible repeat (first | refine blk_drewN ?_ _ | refine blk_drew ?_ | refine blk_alloc ?_ _)); exact BK299.out⟩, ⟨by (with_reducible repeat (first | refine blk_drewN ?_ _ | refine blk_drew ?_ | refine blk_alloc ?_ _)); refine blk_put (cs := #[.string a0_0, .string a0_1, .string a0_2, u301003, .slice A0_4 l0_4.length c0_4]) ?_ 3 _ rfl; (with_reducible repeat (first | refine blk_drewN ?_ _ | refine blk_drew ?_ | refine blk_alloc ?_ _)); exact BK300.out⟩, ⟨by repeat (first | (with_reducible first | exact HK.out | apply Kept.alloc | apply Kept.drewN | apply Kept.drew | refine Kept.setCell ?_ (.inr GW298.out) _ | refine Kept.setCell ?_ (.inr GW299.out) _ | refine Kept.setCell ?_ (.inr GW300.out) _) | exact HK.out)⟩, ⟨by repeat (first | (with_reducible first | exact HB.out | apply below_alloc | apply pw_below_drewN | apply below_drew1 | refine below_set ?_ GE298.out | refine below_set ?_ GE299.out | refine below_set ?_ GE300.out) | exact HB.out)⟩⟩
          · rw [if_neg c13] at H
            exact absurd H (by simp)
        · rw [if_neg c12] at H
          exact absurd H (by simp)
      · rw [if_neg c11] at H
        have c11b0 : decide (x4_1 < (l0_3.length : Int)) = false := decide_eq_false c11
        clear c11
        simp only [Option.some.injEq, Prod.mk.injEq] at H
        obtain ⟨rfl, rfl, rfl, rfl, rfl⟩ := H
        have hnb21 := NB298_299.out
        have hnc21 := NB299_298.out
        have hnb22 := NB298_300.out
        have hnc22 := NB300_298.out
        have hcz23_0 : wr.cell? ⟨gb298, 0, none⟩ = some (.string a0_0) := (blk_cell BK298.out 0).trans rfl
        have hcz23_1 : wr.cell? ⟨gb298, 1, none⟩ = some (.string a0_1) := (blk_cell BK298.out 1).trans rfl
        have hcz23_2 : wr.cell? ⟨gb298, 2, none⟩ = some (.string a0_2) := (blk_cell BK298.out 2).trans rfl
        have hcz23_3 : wr.cell? ⟨gb298, 3, none⟩ = some (.slice A0_3 l0_3.length c0_3) := (blk_cell BK298.out 3).trans rfl
        have hcz23_4 : wr.cell? ⟨gb298, 4, none⟩ = some (.slice A0_4 l0_4.length c0_4) := (blk_cell BK298.out 4).trans rfl
        have hfz23_0 := blk_frozen BK298.out 0
        have hfz23_1 := blk_frozen BK298.out 1
        have hfz23_2 := blk_frozen BK298.out 2
        have hfz23_3 := blk_frozen BK298.out 3
        have hfz23_4 := blk_frozen BK298.out 4
        have hnb24 := NB300_299.out
        have hnc24 := NB299_300.out
        have hcz25_0 : wr.cell? ⟨gb300, 0, none⟩ = some (.string a0_0) := (blk_cell BK300.out 0).trans rfl
        have hcz25_1 : wr.cell? ⟨gb300, 1, none⟩ = some (.string a0_1) := (blk_cell BK300.out 1).trans rfl
        have hcz25_2 : wr.cell? ⟨gb300, 2, none⟩ = some (.string a0_2) := (blk_cell BK300.out 2).trans rfl
        have hcz25_3 : wr.cell? ⟨gb300, 3, none⟩ = some (u301003) := (blk_cell BK300.out 3).trans rfl
        have hcz25_4 : wr.cell? ⟨gb300, 4, none⟩ = some (.slice A0_4 l0_4.length c0_4) := (blk_cell BK300.out 4).trans rfl
        have hfz25_0 := blk_frozen BK300.out 0
        have hfz25_1 := blk_frozen BK300.out 1
        have hfz25_2 := blk_frozen BK300.out 2
        have hfz25_3 := blk_frozen BK300.out 3
        have hfz25_4 := blk_frozen BK300.out 4
        have hcz26_0 : wr.cell? ⟨gb299, 0, none⟩ = some (.string (⟨#[]⟩ : ByteArray)) := (blk_cell BK299.out 0).trans rfl
        have hcz26_1 : wr.cell? ⟨gb299, 1, none⟩ = some (.string (⟨#[]⟩ : ByteArray)) := (blk_cell BK299.out 1).trans rfl
        have hcz26_2 : wr.cell? ⟨gb299, 2, none⟩ = some (.string (⟨#[]⟩ : ByteArray)) := (blk_cell BK299.out 2).trans rfl
        have hcz26_3 : wr.cell? ⟨gb299, 3, none⟩ = some (.slice none 0 0) := (blk_cell BK299.out 3).trans rfl
        have hcz26_4 : wr.cell? ⟨gb299, 4, none⟩ = some (.slice none 0 0) := (blk_cell BK299.out 4).trans rfl
        have hfz26_0 := blk_frozen BK299.out 0
        have hfz26_1 := blk_frozen BK299.out 1
        have hfz26_2 := blk_frozen BK299.out 2
        have hfz26_3 := blk_frozen BK299.out 3
        have hfz26_4 := blk_frozen BK299.out 4
        obtain ⟨Ao27, co27, eo27⟩ := Kd.R_slice HO_301003.out
        subst eo27
        go_wp2
        refine bodyPost_ret (results_cell_row rfl _ _ gb299 44 #[.string a0_0, .string a0_1, .string a0_2, .slice Ao27 x301003_1.length co27, .slice A0_4 l0_4.length c0_4] (0, 0) _ rfl (by (with_reducible repeat (first | refine blk_drewN ?_ _ | refine blk_drew ?_ | refine blk_alloc ?_ _)); refine blk_put (cs := #[.string a0_0, .string a0_1, .string a0_2, .slice Ao27 x301003_1.length co27, .slice none 0 0]) ?_ 4 _ rfl; (with_reducible repeat (first | refine blk_drewN ?_ _ | refine blk_drew ?_ | refine blk_alloc ?_ _)); refine blk_put (cs := #[.string a0_0, .string a0_1, .string a0_2, .slice none 0 0, .slice none 0 0]) ?_ 3 _ rfl; (with_reducible repeat (first | refine blk_drewN ?_ _ | refine blk_drew ?_ | refine blk_alloc ?_ _)); refine blk_put (cs := #[.string a0_0, .string a0_1, .string (⟨#[]⟩ : ByteArray), .slice none 0 0, .slice none 0 0]) ?_ 2 _ rfl; (with_reducible repeat (first | refine blk_drewN ?_ _ | refine blk_drew ?_ | refine blk_alloc ?_ _)); refine blk_put (cs := #[.string a0_0, .string (⟨#[]⟩ : ByteArray), .string (⟨#[]⟩ : ByteArray), .slice none 0 0, .slice none 0 0]) ?_ 1 _ rfl; (with_reducible repeat (first | refine blk_drewN ?_ _ | refine blk_drew ?_ | refine blk_alloc ?_ _)); refine blk_put (cs := #[.string (⟨#[]⟩ : ByteArray), .string (⟨#[]⟩ : ByteArray), .string (⟨#[]⟩ : ByteArray), .slice none 0 0, .slice none 0 0]) ?_ 0 _ rfl; (with_reducible repeat (first | refine blk_drewN ?_ _ | refine blk_drew ?_ | refine blk_alloc ?_ _)); exact BK299.out) Tryz.underlying44 rfl (by kernel_rfl)) rfl ?_
        exact ⟨ _, by first | rfl | (simp [errW_none, errW_some] <;> rfl) | (simp [*, errW_none, errW_some] <;> rfl), by (with_reducible repeat (first | apply Kd.R_alloc | apply Kd.R_drewN | apply Kd.R_drew)); exact Kd.R_mono (Kd.R_far (p := ⟨gb299, 4, none⟩) (Kd.R_far (p := ⟨gb299, 3, none⟩) (Kd.R_far (p := ⟨gb299, 2, none⟩) (Kd.R_far (p := ⟨gb299, 1, none⟩) (Kd.R_far (p := ⟨gb299, 0, none⟩) (Kd.R_types HO_301003.out BK299.out (by decide)) (fun _ hk => hk.2) (.string a0_0)) (fun _ hk => hk.2) (.string a0_1)) (fun _ hk => hk.2) (.string a0_2)) (fun _ hk => hk.2) (.slice Ao27 x301003_1.length co27)) (fun _ hk => hk.2) (.slice A0_4 l0_4.length c0_4)) (fun _ hk => hk.1), by repeat (first | (with_reducible first | exact HB.out | apply below_alloc | apply pw_below_drewN | apply below_drew1 | refine below_set ?_ GE298.out | refine below_set ?_ GE299.out | refine below_set ?_ GE300.out) | exact HB.out), by repeat (first | (with_reducible first | exact HK.out | apply Kept.alloc | apply Kept.drewN | apply Kept.drew | refine Kept.setCell ?_ (.inr GW298.out) _ | refine Kept.setCell ?_ (.inr GW299.out) _ | refine Kept.setCell ?_ (.inr GW300.out) _) | exact HK.out)⟩
end Go.Proofs.YtghcadbmjglidaaGreatDoor.PSg
end
section
set_option linter.unusedVariables false
namespace Go.Proofs.YtghcadbmjglidaaGreatDoor.Sp
open Go.RowKit Go.Proofs.YtghcadbmjglidaaGreatDoor.PSg Go.Proofs.YtghcadbmjglidaaGreatDoorW.PrintWords Go.Proofs.YtghcadbmjglidaaGreatDoorW.PrintLast
theorem C_kept {w W : World} {A : Option Addr} {n : Nat} {xs : List S52} (h : Kd.C k52 w A n xs) (hK : Kept w W (fun _ => False)) : Kd.C k52 W A n xs := by
  refine ⟨h.1, h.2.1, fun h0 => ?_⟩
  obtain ⟨ad, e, hc⟩ := h.2.2 h0
  refine ⟨ad, e, fun j p hj => ?_⟩
  obtain ⟨c, h1, h2, h3⟩ := hc j p hj
  refine ⟨c, h1, by rw [k52_open h2]; exact k52_mk _ _, fun i u hu => ?_⟩
  have h4 := h3 i u hu
  exact (World.cell?_of_block (hK.2 _ (World.block_lt_of_cell? w _ h4) id)).trans h4
theorem wrap_sub (a b : Int) (h0 : 0 ≤ b) (h1 : b ≤ a) (h2 : a < 18446744073709551616) : IntKind.u64.wrap (a - b) = a - b := IntWalk.u64_in _ (by omega)
theorem near_le (t now : Int) (h0 : 0 ≤ t) (h1 : t ≤ now) (h2 : now < 18446744073709551616) : nearZ t now = decide (now - t ≤ 900) := by
  unfold nearZ
  rw [show mx t now = now by unfold mx; omega, show mn t now = t by unfold mn; omega, wrap_sub now t h0 h1 h2]
theorem near_gt (t now : Int) (h0 : 0 ≤ now) (h1 : now < t) (h2 : t < 18446744073709551616) : nearZ t now = decide (t - now ≤ 900) := by
  unfold nearZ
  rw [show mx t now = t by unfold mx; omega, show mn t now = now by unfold mn; omega, wrap_sub t now h0 (by omega) h2]
set_option maxRecDepth 100000 in
set_option maxHeartbeats 4000000 in
theorem back_calls (k : Nat) (hk : 1000000 < k) (m p q : ByteArray) (A3 : Option Addr) (c3 : Nat) (l3 : List S52) (A4 : Option Addr) (c4 : Nat) (l4 : List Int) (who sec : ByteArray) (t now : Int) (w : World)
    (hr3 : Kd.C k52 w A3 l3.length l3) (hc3 : l3.length ≤ c3) (hr4 : Kd.C (Kd.int .u8) w A4 l4.length l4) (hc4 : l4.length ≤ c4) (hM : Aside0 (MaxOk w)) (hkl : l3.length < k)
    (hm : m.size ≤ 140737488351232) (hp : p.size ≤ 140737488351232) (hq : q.size ≤ 140737488351232) (hl : l3.length ≤ 140737488351232) (hs : ∀ x ∈ l3, x.f0.size ≤ 140737488351232 ∧ x.f1.size ≤ 140737488351232) (hbl : l4.length ≤ 140737488351232) (hbb : ∀ x ∈ l4, 0 ≤ x ∧ x < 256)
    (hw : who.size ≤ 140737488351232) (hse : sec.size ≤ 140737488351232) (ht0 : 0 ≤ t) (ht1 : t < 18446744073709551616) (hn0 : 0 ≤ now) (hn1 : now < 18446744073709551616) :
    Calls Tryz.prog 4 #[.agg #[.string m, .string p, .string q, .slice A3 l3.length c3, .slice A4 l4.length c4], .string who, .string sec, .int .u64 t, .int .u64 now] w fun e w' => e = .returned (.bool true) ∧ Below w.heap.size w w' := by
  obtain ⟨b, hb, hS⟩ := light_f l3 m p q l4 hl hs hm hp hq hbl k hkl
  have HL := Lib.hid hb
  have R3 := Lib.hid hr3
  have R4 := Lib.hid hr4
  clear hb hr3 hr4 hm hp hq hs hbl
  cases b with
  | false =>
    clear hS
    obtain ⟨W0, hW0⟩ : ∃ W0, W0 = w.alloc (.cells #[.string m, .string p, .string q, .slice A3 l3.length c3, .slice A4 l4.length c4] 39) := ⟨_, rfl⟩
    have bk0 : W0.heap[w.heap.size]? = some (.cells #[.string m, .string p, .string q, .slice A3 l3.length c3, .slice A4 l4.length c4] 39 (0, 0)) := by rw [hW0]; exact heap_alloc_new w _
    have F0 := Lib.hid (show Fr (fun _ => False) w W0 by rw [hW0]; exact (Fr.refl _ _).alloc _)
    obtain ⟨⟨b0, b1, b2, b3, b4⟩, -⟩ := blk5 bk0
    have BK0 := Lib.hid bk0
    clear bk0
    go_enter Tryz.func4, Tryz.ntmps4
    go_wp2_with fail
    rw [← hW0]
    clear hW0
    go_wp2_with (first
      | (go_at_call 12; with_reducible refine (stelelaw06_light.calls k m p q A3 c3 l3 A4 c4 l4 _ W0 (Kd.C_below R3.out (F0.out.below (Nat.le_refl _) (fun _ _ => id))) hc3 (Kd.C_below R4.out (F0.out.below (Nat.le_refl _) (fun _ _ => id))) hc4 HL.out).mono ?_; clear HL; rintro e w1 ⟨rfl, hb1⟩
         have f1 := Fr.of_below0 hb1
         have F1 := Lib.hid (F0.out.trans f1)
         have bk1 := f1.heap BK0.out id
         clear b0 b1 b2 b3 b4
         obtain ⟨⟨b0, b1, b2, b3, b4⟩, -⟩ := blk5 bk1
         clear bk1 hb1 f1 F0 BK0)
      | (go_at_call 6; with_reducible refine (stelelaw06_alive.calls k true w1 (alive_f k hk) (mxk hM (F1.out.below (Nat.le_refl _) (fun _ _ => id)))).mono ?_; rintro e wz ⟨rfl, hbz⟩
         have FZ := Lib.hid (F1.out.trans (Fr.of_below0 hbz))
         clear hbz))
    go_ret
    exact ⟨rfl, FZ.out.below (Nat.le_refl _) (fun _ _ => id)⟩
  | true =>
  have hsh := hS rfl
  clear hS
  by_cases hlen : 10000 < who.size + sec.size
  · have hq1 : decide ((10000 : Int) < (who.size : Int) + (sec.size : Int)) = true := by simp; omega
    clear hsh
    obtain ⟨W0, hW0⟩ : ∃ W0, W0 = w.alloc (.cells #[.string m, .string p, .string q, .slice A3 l3.length c3, .slice A4 l4.length c4] 39) := ⟨_, rfl⟩
    have bk0 : W0.heap[w.heap.size]? = some (.cells #[.string m, .string p, .string q, .slice A3 l3.length c3, .slice A4 l4.length c4] 39 (0, 0)) := by rw [hW0]; exact heap_alloc_new w _
    have F0 := Lib.hid (show Fr (fun _ => False) w W0 by rw [hW0]; exact (Fr.refl _ _).alloc _)
    obtain ⟨⟨b0, b1, b2, b3, b4⟩, -⟩ := blk5 bk0
    have BK0 := Lib.hid bk0
    clear bk0
    go_enter Tryz.func4, Tryz.ntmps4
    go_wp2_with fail
    rw [← hW0]
    clear hW0
    go_wp2_with (first
      | (go_at_call 12; with_reducible refine (stelelaw06_light.calls k m p q A3 c3 l3 A4 c4 l4 _ W0 (Kd.C_below R3.out (F0.out.below (Nat.le_refl _) (fun _ _ => id))) hc3 (Kd.C_below R4.out (F0.out.below (Nat.le_refl _) (fun _ _ => id))) hc4 HL.out).mono ?_; clear HL; rintro e w1 ⟨rfl, hb1⟩
         have f1 := Fr.of_below0 hb1
         have F1 := Lib.hid (F0.out.trans f1)
         have bk1 := f1.heap BK0.out id
         clear b0 b1 b2 b3 b4
         obtain ⟨⟨b0, b1, b2, b3, b4⟩, -⟩ := blk5 bk1
         clear bk1 hb1 f1 F0 BK0)
      | (go_at_call 6; with_reducible refine (stelelaw06_alive.calls k true w1 (alive_f k hk) (mxk hM (F1.out.below (Nat.le_refl _) (fun _ _ => id)))).mono ?_; rintro e wz ⟨rfl, hbz⟩
         have FZ := Lib.hid (F1.out.trans (Fr.of_below0 hbz))
         clear hbz))
    go_ret
    exact ⟨rfl, FZ.out.below (Nat.le_refl _) (fun _ _ => id)⟩
  have hq1 : decide ((10000 : Int) < (who.size : Int) + (sec.size : Int)) = false := by simp; omega
  have HO := Lib.hid (own_f l3 m p q l4 (by have := hsh.n; omega) k hkl)
  have hsm := small_own hsh hbb
  have hA := attach_f (bl m) (bl p) (bl q) (l3.map ownX) l4 (bl who) (bl sec) t hsm (names_own hsh) (by rw [blL]; omega) (by rw [blL]; omega) ht0 ht1 k (by omega)
  rw [B_bl, B_bl, B_bl, B_bl, B_bl] at hA
  have hok := @att_ok (bl m) (bl p) (bl q) (l3.map ownX) l4 (bl who) (bl sec) t
  generalize attZ (bl m) (bl p) (bl q) (l3.map ownX) l4 (bl who) (bl sec) t = R at hA hok
  obtain ⟨r1, r2, r3, r4, r5, r6⟩ := R
  by_cases h6 : r6 = 0
  case neg =>
    have hq6 : (r6 != 0) = true := by simpa using h6
    have HA := Lib.hid hA
    clear hA hok h6 hsm hsh
    obtain ⟨l5, hl5⟩ : ∃ l, l3.map ownX = l := ⟨_, rfl⟩
    rw [hl5] at HO HA
    clear hl5
    obtain ⟨W0, hW0⟩ : ∃ W0, W0 = w.alloc (.cells #[.string m, .string p, .string q, .slice A3 l3.length c3, .slice A4 l4.length c4] 39) := ⟨_, rfl⟩
    have bk0 : W0.heap[w.heap.size]? = some (.cells #[.string m, .string p, .string q, .slice A3 l3.length c3, .slice A4 l4.length c4] 39 (0, 0)) := by rw [hW0]; exact heap_alloc_new w _
    have F0 := Lib.hid (show Fr (fun _ => False) w W0 by rw [hW0]; exact (Fr.refl _ _).alloc _)
    obtain ⟨⟨b0, b1, b2, b3, b4⟩, -⟩ := blk5 bk0
    have BK0 := Lib.hid bk0
    clear bk0
    go_enter Tryz.func4, Tryz.ntmps4
    go_wp2_with fail
    rw [← hW0]
    clear hW0
    go_wp2_with (first
      | (go_at_call 12; with_reducible refine (stelelaw06_light.calls k m p q A3 c3 l3 A4 c4 l4 _ W0 (Kd.C_below R3.out (F0.out.below (Nat.le_refl _) (fun _ _ => id))) hc3 (Kd.C_below R4.out (F0.out.below (Nat.le_refl _) (fun _ _ => id))) hc4 HL.out).mono ?_; clear HL; rintro e w1 ⟨rfl, hb1⟩
         have f1 := Fr.of_below0 hb1
         have F1 := Lib.hid (F0.out.trans f1)
         have bk1 := f1.heap BK0.out id
         clear b0 b1 b2 b3 b4
         obtain ⟨⟨b0, b1, b2, b3, b4⟩, -⟩ := blk5 bk1
         clear bk1 hb1 f1 F0 BK0)
      | (go_at_call 14; with_reducible refine (stelelaw05_Own_H.calls k m p q A3 c3 l3 (fun _ => False) A4 c4 l4 m p q l5 l4 w1 w1 (Below.refl _ _) (fun W_ hK_ => C_kept (Kd.C_below R3.out (F1.out.below (Nat.le_refl _) (fun _ _ => id))) hK_) hc3 HO.out).mono ?_; clear HO; rintro e w2 ⟨v3, rfl, hR2, hb2, -⟩
         have f2 := Fr.of_below0 hb2
         have F2 := Lib.hid (F1.out.trans f2)
         have hR2b := Kd.R_mono hR2 (fun _ _ => trivial : ∀ k_, _ → (fun _ : Nat => True) k_)
         obtain ⟨A2, c2, rfl⟩ := Kd.R_slice hR2b
         have HR2 := Lib.hid hR2b
         clear hb2 f2 hR2 hR2b b0 b1 b2 b3 b4)
      | (go_at_call 13; with_reducible refine (sigv4_Attach.calls k m p q A2 c2 l5 A4 c4 l4 who sec t r1 r2 r3 r4 r5 _ w2 (Kd.R_reads' HR2.out).2.2 (Kd.R_reads' HR2.out).2.1 (Kd.C_below R4.out (F2.out.below (Nat.le_refl _) (fun _ _ => id))) hc4 HA.out).mono ?_; clear HA; rintro e w3 ⟨v3, v4, rfl, hR3, hR4, hb3⟩
         have F3 := Lib.hid (F2.out.trans (Fr.of_below0 hb3))
         obtain ⟨A6, c6, rfl⟩ := Kd.R_slice hR3
         obtain ⟨A7, c7, rfl⟩ := Kd.R_slice hR4
         have HR3 := Lib.hid hR3
         have HR4 := Lib.hid hR4
         have F4 := Lib.hid (F3.out.alloc (.cells #[.string r1, .string r2, .string r3, .slice A6 r4.length c6, .slice A7 r5.length c7] 44))
         have X3 := Lib.hid (Kd.C_below (Kd.R_reads' hR3).2.2 (below_alloc (Below.refl _ _) (.cells #[.string r1, .string r2, .string r3, .slice A6 r4.length c6, .slice A7 r5.length c7] 44)))
         have X4 := Lib.hid (Kd.C_below (Kd.R_reads' hR4).2.2 (below_alloc (Below.refl _ _) (.cells #[.string r1, .string r2, .string r3, .slice A6 r4.length c6, .slice A7 r5.length c7] 44)))
         obtain ⟨⟨d0, d1, d2, d3, d4⟩, -⟩ := blk5 (heap_alloc_new w3 (.cells #[.string r1, .string r2, .string r3, .slice A6 r4.length c6, .slice A7 r5.length c7] 44))
         have BD := Lib.hid (heap_alloc_new w3 (.cells #[.string r1, .string r2, .string r3, .slice A6 r4.length c6, .slice A7 r5.length c7] 44))
         clear hR3 hR4 hb3 F2 HR2)
      | (go_at_call 6; with_reducible refine (stelelaw06_alive.calls k true _ (alive_f k hk) (mxk hM (F4.out.below (Nat.le_refl _) (fun _ _ => id)))).mono ?_; rintro e wz ⟨rfl, hbz⟩
         have FZ := Lib.hid (F4.out.trans (Fr.of_below0 hbz))
         clear hbz))
    go_ret
    exact ⟨rfl, FZ.out.below (Nat.le_refl _) (fun _ _ => id)⟩
  case pos =>
  subst h6
  have hat := hok rfl
  have hv : ∀ now, sigv4_Verify.f k r1 r2 r3 r4 r5 sec now = some (if nearZ t now = true then 0 else 21) := by
    intro now
    have hb1 := back hat ht0 (bl sec) now
    rw [if_pos (c := bl _ = bl _) rfl] at hb1
    have he := hat.eq
    have e1 : r1 = B (bl m) := congrArg (fun x => x.1) he
    have e2 : r2 = B (bl p) := congrArg (fun x => x.2.1) he
    have e3 : r3 = B (bl q) := congrArg (fun x => x.2.2.1) he
    have e4 := congrArg (fun x => x.2.2.2.1) he
    have e5 : r5 = l4 := congrArg (fun x => x.2.2.2.2.1) he
    have hr := hat.rt
    dsimp only at e4
    rw [e1, e2, e3, e5]
    have h9 := verify_f (bl m) (bl p) (bl q) r4 l4 (bl sec) now ?_ (by rw [blL]; omega) k hk
    · rw [B_bl sec] at h9
      rw [h9]
      exact congrArg some hb1
    · rw [e4]
      refine small_snoc (small_snoc hsm (dateH t) (by show (bl (B (showT t))).length ≤ _; rw [blB, showT_len]; decide) (by rw [List.length_map]; have := hsh.n; omega)) _ ?_ (by simp; have := hsh.n; omega)
      show (bl (B (showB _ _ _ _))).length ≤ _
      rw [blB]
      have hj := Uri.jn_len [59] (sortL (nmsL (l3.map ownX ++ [dateH t])))
      unfold rightB at hr
      simp only [Bool.and_eq_true] at hr
      have hf := okNs_facts hr.1.2
      have hsum := sum_le List.length 64 _ hf.2.2.1
      have hsl := hf.2.1
      have hwl := hr.1.1.1
      unfold okA at hwl
      simp only [Bool.and_eq_true, decide_eq_true_eq] at hwl
      have hsg := signZ_len (bl sec) (bl m) (bl p) (bl q) (l3.map ownX ++ [dateH t]) l4 (sortL (nmsL (l3.map ownX ++ [dateH t]))) t
      unfold showB
      simp only [List.length_append, List.length_take, showT_len, List.length_singleton] at hj ⊢
      rw [show algA.length = 28 from rfl, show scopeL.length = 22 from rfl, show headL.length = 16 from rfl, show sgA.length = 12 from rfl]
      omega
  have HA := Lib.hid hA
  have HV2 := Lib.hid (hv t)
  rw [near_self, if_pos rfl] at HV2
  have HV1 := Lib.hid (hv now)
  clear hA hok hat hv hsm hsh
  obtain ⟨l5, hl5⟩ : ∃ l, l3.map ownX = l := ⟨_, rfl⟩
  rw [hl5] at HO HA
  clear hl5
  by_cases hle : t ≤ now
  · rw [near_le t now ht0 hle hn1] at HV1
    have q1 : decide (t ≤ now) = true := decide_eq_true hle
    have q2 : decide (now < t) = false := decide_eq_false (by omega)
    have q4 := wrap_sub now t ht0 hle hn1
    by_cases hd : now - t ≤ 900
    · have q3 : decide (now - t ≤ 900) = true := decide_eq_true hd
      rw [q3, if_pos rfl] at HV1
      obtain ⟨W0, hW0⟩ : ∃ W0, W0 = w.alloc (.cells #[.string m, .string p, .string q, .slice A3 l3.length c3, .slice A4 l4.length c4] 39) := ⟨_, rfl⟩
      have bk0 : W0.heap[w.heap.size]? = some (.cells #[.string m, .string p, .string q, .slice A3 l3.length c3, .slice A4 l4.length c4] 39 (0, 0)) := by rw [hW0]; exact heap_alloc_new w _
      have F0 := Lib.hid (show Fr (fun _ => False) w W0 by rw [hW0]; exact (Fr.refl _ _).alloc _)
      obtain ⟨⟨b0, b1, b2, b3, b4⟩, -⟩ := blk5 bk0
      have BK0 := Lib.hid bk0
      clear bk0
      go_enter Tryz.func4, Tryz.ntmps4
      go_wp2_with fail
      rw [← hW0]
      clear hW0
      go_wp2_with (first
        | (go_at_call 12; with_reducible refine (stelelaw06_light.calls k m p q A3 c3 l3 A4 c4 l4 _ W0 (Kd.C_below R3.out (F0.out.below (Nat.le_refl _) (fun _ _ => id))) hc3 (Kd.C_below R4.out (F0.out.below (Nat.le_refl _) (fun _ _ => id))) hc4 HL.out).mono ?_; clear HL; rintro e w1 ⟨rfl, hb1⟩
           have f1 := Fr.of_below0 hb1
           have F1 := Lib.hid (F0.out.trans f1)
           have bk1 := f1.heap BK0.out id
           clear b0 b1 b2 b3 b4
           obtain ⟨⟨b0, b1, b2, b3, b4⟩, -⟩ := blk5 bk1
           clear bk1 hb1 f1 F0 BK0)
        | (go_at_call 14; with_reducible refine (stelelaw05_Own_H.calls k m p q A3 c3 l3 (fun _ => False) A4 c4 l4 m p q l5 l4 w1 w1 (Below.refl _ _) (fun W_ hK_ => C_kept (Kd.C_below R3.out (F1.out.below (Nat.le_refl _) (fun _ _ => id))) hK_) hc3 HO.out).mono ?_; clear HO; rintro e w2 ⟨v3, rfl, hR2, hb2, -⟩
           have f2 := Fr.of_below0 hb2
           have F2 := Lib.hid (F1.out.trans f2)
           have hR2b := Kd.R_mono hR2 (fun _ _ => trivial : ∀ k_, _ → (fun _ : Nat => True) k_)
           obtain ⟨A2, c2, rfl⟩ := Kd.R_slice hR2b
           have HR2 := Lib.hid hR2b
           clear hb2 f2 hR2 hR2b b0 b1 b2 b3 b4)
        | (go_at_call 13; with_reducible refine (sigv4_Attach.calls k m p q A2 c2 l5 A4 c4 l4 who sec t r1 r2 r3 r4 r5 _ w2 (Kd.R_reads' HR2.out).2.2 (Kd.R_reads' HR2.out).2.1 (Kd.C_below R4.out (F2.out.below (Nat.le_refl _) (fun _ _ => id))) hc4 HA.out).mono ?_; clear HA; rintro e w3 ⟨v3, v4, rfl, hR3, hR4, hb3⟩
           have F3 := Lib.hid (F2.out.trans (Fr.of_below0 hb3))
           obtain ⟨A6, c6, rfl⟩ := Kd.R_slice hR3
           obtain ⟨A7, c7, rfl⟩ := Kd.R_slice hR4
           have HR3 := Lib.hid hR3
           have HR4 := Lib.hid hR4
           have F4 := Lib.hid (F3.out.alloc (.cells #[.string r1, .string r2, .string r3, .slice A6 r4.length c6, .slice A7 r5.length c7] 44))
           have X3 := Lib.hid (Kd.C_below (Kd.R_reads' hR3).2.2 (below_alloc (Below.refl _ _) (.cells #[.string r1, .string r2, .string r3, .slice A6 r4.length c6, .slice A7 r5.length c7] 44)))
           have X4 := Lib.hid (Kd.C_below (Kd.R_reads' hR4).2.2 (below_alloc (Below.refl _ _) (.cells #[.string r1, .string r2, .string r3, .slice A6 r4.length c6, .slice A7 r5.length c7] 44)))
           obtain ⟨⟨d0, d1, d2, d3, d4⟩, -⟩ := blk5 (heap_alloc_new w3 (.cells #[.string r1, .string r2, .string r3, .slice A6 r4.length c6, .slice A7 r5.length c7] 44))
           have BD := Lib.hid (heap_alloc_new w3 (.cells #[.string r1, .string r2, .string r3, .slice A6 r4.length c6, .slice A7 r5.length c7] 44))
           clear hR3 hR4 hb3 F2 HR2)
        | (go_at_call 15; with_reducible refine (sigv4_Verify.calls k r1 r2 r3 A6 c6 r4 A7 c7 r5 sec now _ _ X3.out (Kd.R_reads' HR3.out).2.1 X4.out (Kd.R_reads' HR4.out).2.1 HV1.out (mxk hM (F4.out.below (Nat.le_refl _) (fun _ _ => id)))).mono ?_; clear HV1; rintro e w5 ⟨rfl, hb5⟩
           have f5 := Fr.of_below0 hb5
           have F5 := Lib.hid (F4.out.trans f5)
           have Y3 := Lib.hid (Kd.C_below X3.out hb5)
           have Y4 := Lib.hid (Kd.C_below X4.out hb5)
           have bd5 := f5.heap BD.out id
           clear d0 d1 d2 d3 d4
           obtain ⟨⟨d0, d1, d2, d3, d4⟩, -⟩ := blk5 bd5
           clear bd5 hb5 f5 X3 X4 F4 BD)
        | (go_at_call 15; with_reducible refine (sigv4_Verify.calls k r1 r2 r3 A6 c6 r4 A7 c7 r5 sec t 0 w5 Y3.out (Kd.R_reads' HR3.out).2.1 Y4.out (Kd.R_reads' HR4.out).2.1 HV2.out (mxk hM (F5.out.below (Nat.le_refl _) (fun _ _ => id)))).mono ?_; clear HV2; rintro e w6 ⟨rfl, hb6⟩
           have F6 := Lib.hid (F5.out.trans (Fr.of_below0 hb6))
           clear hb6 Y3 Y4 F5 HR3 HR4 d0 d1 d2 d3 d4)
        | (go_at_call 6; with_reducible refine (stelelaw06_alive.calls k true w6 (alive_f k hk) (mxk hM (F6.out.below (Nat.le_refl _) (fun _ _ => id)))).mono ?_; rintro e wz ⟨rfl, hbz⟩
           have FZ := Lib.hid (F6.out.trans (Fr.of_below0 hbz))
           clear hbz))
      go_ret
      exact ⟨rfl, FZ.out.below (Nat.le_refl _) (fun _ _ => id)⟩
    · have q3 : decide (now - t ≤ 900) = false := decide_eq_false hd
      rw [q3, if_neg (by simp)] at HV1
      obtain ⟨W0, hW0⟩ : ∃ W0, W0 = w.alloc (.cells #[.string m, .string p, .string q, .slice A3 l3.length c3, .slice A4 l4.length c4] 39) := ⟨_, rfl⟩
      have bk0 : W0.heap[w.heap.size]? = some (.cells #[.string m, .string p, .string q, .slice A3 l3.length c3, .slice A4 l4.length c4] 39 (0, 0)) := by rw [hW0]; exact heap_alloc_new w _
      have F0 := Lib.hid (show Fr (fun _ => False) w W0 by rw [hW0]; exact (Fr.refl _ _).alloc _)
      obtain ⟨⟨b0, b1, b2, b3, b4⟩, -⟩ := blk5 bk0
      have BK0 := Lib.hid bk0
      clear bk0
      go_enter Tryz.func4, Tryz.ntmps4
      go_wp2_with fail
      rw [← hW0]
      clear hW0
      go_wp2_with (first
        | (go_at_call 12; with_reducible refine (stelelaw06_light.calls k m p q A3 c3 l3 A4 c4 l4 _ W0 (Kd.C_below R3.out (F0.out.below (Nat.le_refl _) (fun _ _ => id))) hc3 (Kd.C_below R4.out (F0.out.below (Nat.le_refl _) (fun _ _ => id))) hc4 HL.out).mono ?_; clear HL; rintro e w1 ⟨rfl, hb1⟩
           have f1 := Fr.of_below0 hb1
           have F1 := Lib.hid (F0.out.trans f1)
           have bk1 := f1.heap BK0.out id
           clear b0 b1 b2 b3 b4
           obtain ⟨⟨b0, b1, b2, b3, b4⟩, -⟩ := blk5 bk1
           clear bk1 hb1 f1 F0 BK0)
        | (go_at_call 14; with_reducible refine (stelelaw05_Own_H.calls k m p q A3 c3 l3 (fun _ => False) A4 c4 l4 m p q l5 l4 w1 w1 (Below.refl _ _) (fun W_ hK_ => C_kept (Kd.C_below R3.out (F1.out.below (Nat.le_refl _) (fun _ _ => id))) hK_) hc3 HO.out).mono ?_; clear HO; rintro e w2 ⟨v3, rfl, hR2, hb2, -⟩
           have f2 := Fr.of_below0 hb2
           have F2 := Lib.hid (F1.out.trans f2)
           have hR2b := Kd.R_mono hR2 (fun _ _ => trivial : ∀ k_, _ → (fun _ : Nat => True) k_)
           obtain ⟨A2, c2, rfl⟩ := Kd.R_slice hR2b
           have HR2 := Lib.hid hR2b
           clear hb2 f2 hR2 hR2b b0 b1 b2 b3 b4)
        | (go_at_call 13; with_reducible refine (sigv4_Attach.calls k m p q A2 c2 l5 A4 c4 l4 who sec t r1 r2 r3 r4 r5 _ w2 (Kd.R_reads' HR2.out).2.2 (Kd.R_reads' HR2.out).2.1 (Kd.C_below R4.out (F2.out.below (Nat.le_refl _) (fun _ _ => id))) hc4 HA.out).mono ?_; clear HA; rintro e w3 ⟨v3, v4, rfl, hR3, hR4, hb3⟩
           have F3 := Lib.hid (F2.out.trans (Fr.of_below0 hb3))
           obtain ⟨A6, c6, rfl⟩ := Kd.R_slice hR3
           obtain ⟨A7, c7, rfl⟩ := Kd.R_slice hR4
           have HR3 := Lib.hid hR3
           have HR4 := Lib.hid hR4
           have F4 := Lib.hid (F3.out.alloc (.cells #[.string r1, .string r2, .string r3, .slice A6 r4.length c6, .slice A7 r5.length c7] 44))
           have X3 := Lib.hid (Kd.C_below (Kd.R_reads' hR3).2.2 (below_alloc (Below.refl _ _) (.cells #[.string r1, .string r2, .string r3, .slice A6 r4.length c6, .slice A7 r5.length c7] 44)))
           have X4 := Lib.hid (Kd.C_below (Kd.R_reads' hR4).2.2 (below_alloc (Below.refl _ _) (.cells #[.string r1, .string r2, .string r3, .slice A6 r4.length c6, .slice A7 r5.length c7] 44)))
           obtain ⟨⟨d0, d1, d2, d3, d4⟩, -⟩ := blk5 (heap_alloc_new w3 (.cells #[.string r1, .string r2, .string r3, .slice A6 r4.length c6, .slice A7 r5.length c7] 44))
           have BD := Lib.hid (heap_alloc_new w3 (.cells #[.string r1, .string r2, .string r3, .slice A6 r4.length c6, .slice A7 r5.length c7] 44))
           clear hR3 hR4 hb3 F2 HR2)
        | (go_at_call 15; with_reducible refine (sigv4_Verify.calls k r1 r2 r3 A6 c6 r4 A7 c7 r5 sec now _ _ X3.out (Kd.R_reads' HR3.out).2.1 X4.out (Kd.R_reads' HR4.out).2.1 HV1.out (mxk hM (F4.out.below (Nat.le_refl _) (fun _ _ => id)))).mono ?_; clear HV1; rintro e w5 ⟨rfl, hb5⟩
           have f5 := Fr.of_below0 hb5
           have F5 := Lib.hid (F4.out.trans f5)
           have Y3 := Lib.hid (Kd.C_below X3.out hb5)
           have Y4 := Lib.hid (Kd.C_below X4.out hb5)
           have bd5 := f5.heap BD.out id
           clear d0 d1 d2 d3 d4
           obtain ⟨⟨d0, d1, d2, d3, d4⟩, -⟩ := blk5 bd5
           clear bd5 hb5 f5 X3 X4 F4 BD)
        | (go_at_call 15; with_reducible refine (sigv4_Verify.calls k r1 r2 r3 A6 c6 r4 A7 c7 r5 sec t 0 w5 Y3.out (Kd.R_reads' HR3.out).2.1 Y4.out (Kd.R_reads' HR4.out).2.1 HV2.out (mxk hM (F5.out.below (Nat.le_refl _) (fun _ _ => id)))).mono ?_; clear HV2; rintro e w6 ⟨rfl, hb6⟩
           have F6 := Lib.hid (F5.out.trans (Fr.of_below0 hb6))
           clear hb6 Y3 Y4 F5 HR3 HR4 d0 d1 d2 d3 d4)
        | (go_at_call 6; with_reducible refine (stelelaw06_alive.calls k true w6 (alive_f k hk) (mxk hM (F6.out.below (Nat.le_refl _) (fun _ _ => id)))).mono ?_; rintro e wz ⟨rfl, hbz⟩
           have FZ := Lib.hid (F6.out.trans (Fr.of_below0 hbz))
           clear hbz))
      go_ret
      exact ⟨rfl, FZ.out.below (Nat.le_refl _) (fun _ _ => id)⟩
  · rw [near_gt t now hn0 (by omega) ht1] at HV1
    have q1 : decide (t ≤ now) = false := decide_eq_false hle
    have q2 : decide (now < t) = true := decide_eq_true (by omega)
    have q4 := wrap_sub t now hn0 (by omega) ht1
    by_cases hd : t - now ≤ 900
    · have q3 : decide (t - now ≤ 900) = true := decide_eq_true hd
      rw [q3, if_pos rfl] at HV1
      obtain ⟨W0, hW0⟩ : ∃ W0, W0 = w.alloc (.cells #[.string m, .string p, .string q, .slice A3 l3.length c3, .slice A4 l4.length c4] 39) := ⟨_, rfl⟩
      have bk0 : W0.heap[w.heap.size]? = some (.cells #[.string m, .string p, .string q, .slice A3 l3.length c3, .slice A4 l4.length c4] 39 (0, 0)) := by rw [hW0]; exact heap_alloc_new w _
      have F0 := Lib.hid (show Fr (fun _ => False) w W0 by rw [hW0]; exact (Fr.refl _ _).alloc _)
      obtain ⟨⟨b0, b1, b2, b3, b4⟩, -⟩ := blk5 bk0
      have BK0 := Lib.hid bk0
      clear bk0
      go_enter Tryz.func4, Tryz.ntmps4
      go_wp2_with fail
      rw [← hW0]
      clear hW0
      go_wp2_with (first
        | (go_at_call 12; with_reducible refine (stelelaw06_light.calls k m p q A3 c3 l3 A4 c4 l4 _ W0 (Kd.C_below R3.out (F0.out.below (Nat.le_refl _) (fun _ _ => id))) hc3 (Kd.C_below R4.out (F0.out.below (Nat.le_refl _) (fun _ _ => id))) hc4 HL.out).mono ?_; clear HL; rintro e w1 ⟨rfl, hb1⟩
           have f1 := Fr.of_below0 hb1
           have F1 := Lib.hid (F0.out.trans f1)
           have bk1 := f1.heap BK0.out id
           clear b0 b1 b2 b3 b4
           obtain ⟨⟨b0, b1, b2, b3, b4⟩, -⟩ := blk5 bk1
           clear bk1 hb1 f1 F0 BK0)
        | (go_at_call 14; with_reducible refine (stelelaw05_Own_H.calls k m p q A3 c3 l3 (fun _ => False) A4 c4 l4 m p q l5 l4 w1 w1 (Below.refl _ _) (fun W_ hK_ => C_kept (Kd.C_below R3.out (F1.out.below (Nat.le_refl _) (fun _ _ => id))) hK_) hc3 HO.out).mono ?_; clear HO; rintro e w2 ⟨v3, rfl, hR2, hb2, -⟩
           have f2 := Fr.of_below0 hb2
           have F2 := Lib.hid (F1.out.trans f2)
           have hR2b := Kd.R_mono hR2 (fun _ _ => trivial : ∀ k_, _ → (fun _ : Nat => True) k_)
           obtain ⟨A2, c2, rfl⟩ := Kd.R_slice hR2b
           have HR2 := Lib.hid hR2b
           clear hb2 f2 hR2 hR2b b0 b1 b2 b3 b4)
        | (go_at_call 13; with_reducible refine (sigv4_Attach.calls k m p q A2 c2 l5 A4 c4 l4 who sec t r1 r2 r3 r4 r5 _ w2 (Kd.R_reads' HR2.out).2.2 (Kd.R_reads' HR2.out).2.1 (Kd.C_below R4.out (F2.out.below (Nat.le_refl _) (fun _ _ => id))) hc4 HA.out).mono ?_; clear HA; rintro e w3 ⟨v3, v4, rfl, hR3, hR4, hb3⟩
           have F3 := Lib.hid (F2.out.trans (Fr.of_below0 hb3))
           obtain ⟨A6, c6, rfl⟩ := Kd.R_slice hR3
           obtain ⟨A7, c7, rfl⟩ := Kd.R_slice hR4
           have HR3 := Lib.hid hR3
           have HR4 := Lib.hid hR4
           have F4 := Lib.hid (F3.out.alloc (.cells #[.string r1, .string r2, .string r3, .slice A6 r4.length c6, .slice A7 r5.length c7] 44))
           have X3 := Lib.hid (Kd.C_below (Kd.R_reads' hR3).2.2 (below_alloc (Below.refl _ _) (.cells #[.string r1, .string r2, .string r3, .slice A6 r4.length c6, .slice A7 r5.length c7] 44)))
           have X4 := Lib.hid (Kd.C_below (Kd.R_reads' hR4).2.2 (below_alloc (Below.refl _ _) (.cells #[.string r1, .string r2, .string r3, .slice A6 r4.length c6, .slice A7 r5.length c7] 44)))
           obtain ⟨⟨d0, d1, d2, d3, d4⟩, -⟩ := blk5 (heap_alloc_new w3 (.cells #[.string r1, .string r2, .string r3, .slice A6 r4.length c6, .slice A7 r5.length c7] 44))
           have BD := Lib.hid (heap_alloc_new w3 (.cells #[.string r1, .string r2, .string r3, .slice A6 r4.length c6, .slice A7 r5.length c7] 44))
           clear hR3 hR4 hb3 F2 HR2)
        | (go_at_call 15; with_reducible refine (sigv4_Verify.calls k r1 r2 r3 A6 c6 r4 A7 c7 r5 sec now _ _ X3.out (Kd.R_reads' HR3.out).2.1 X4.out (Kd.R_reads' HR4.out).2.1 HV1.out (mxk hM (F4.out.below (Nat.le_refl _) (fun _ _ => id)))).mono ?_; clear HV1; rintro e w5 ⟨rfl, hb5⟩
           have f5 := Fr.of_below0 hb5
           have F5 := Lib.hid (F4.out.trans f5)
           have Y3 := Lib.hid (Kd.C_below X3.out hb5)
           have Y4 := Lib.hid (Kd.C_below X4.out hb5)
           have bd5 := f5.heap BD.out id
           clear d0 d1 d2 d3 d4
           obtain ⟨⟨d0, d1, d2, d3, d4⟩, -⟩ := blk5 bd5
           clear bd5 hb5 f5 X3 X4 F4 BD)
        | (go_at_call 15; with_reducible refine (sigv4_Verify.calls k r1 r2 r3 A6 c6 r4 A7 c7 r5 sec t 0 w5 Y3.out (Kd.R_reads' HR3.out).2.1 Y4.out (Kd.R_reads' HR4.out).2.1 HV2.out (mxk hM (F5.out.below (Nat.le_refl _) (fun _ _ => id)))).mono ?_; clear HV2; rintro e w6 ⟨rfl, hb6⟩
           have F6 := Lib.hid (F5.out.trans (Fr.of_below0 hb6))
           clear hb6 Y3 Y4 F5 HR3 HR4 d0 d1 d2 d3 d4)
        | (go_at_call 6; with_reducible refine (stelelaw06_alive.calls k true w6 (alive_f k hk) (mxk hM (F6.out.below (Nat.le_refl _) (fun _ _ => id)))).mono ?_; rintro e wz ⟨rfl, hbz⟩
           have FZ := Lib.hid (F6.out.trans (Fr.of_below0 hbz))
           clear hbz))
      go_ret
      exact ⟨rfl, FZ.out.below (Nat.le_refl _) (fun _ _ => id)⟩
    · have q3 : decide (t - now ≤ 900) = false := decide_eq_false hd
      rw [q3, if_neg (by simp)] at HV1
      obtain ⟨W0, hW0⟩ : ∃ W0, W0 = w.alloc (.cells #[.string m, .string p, .string q, .slice A3 l3.length c3, .slice A4 l4.length c4] 39) := ⟨_, rfl⟩
      have bk0 : W0.heap[w.heap.size]? = some (.cells #[.string m, .string p, .string q, .slice A3 l3.length c3, .slice A4 l4.length c4] 39 (0, 0)) := by rw [hW0]; exact heap_alloc_new w _
      have F0 := Lib.hid (show Fr (fun _ => False) w W0 by rw [hW0]; exact (Fr.refl _ _).alloc _)
      obtain ⟨⟨b0, b1, b2, b3, b4⟩, -⟩ := blk5 bk0
      have BK0 := Lib.hid bk0
      clear bk0
      go_enter Tryz.func4, Tryz.ntmps4
      go_wp2_with fail
      rw [← hW0]
      clear hW0
      go_wp2_with (first
        | (go_at_call 12; with_reducible refine (stelelaw06_light.calls k m p q A3 c3 l3 A4 c4 l4 _ W0 (Kd.C_below R3.out (F0.out.below (Nat.le_refl _) (fun _ _ => id))) hc3 (Kd.C_below R4.out (F0.out.below (Nat.le_refl _) (fun _ _ => id))) hc4 HL.out).mono ?_; clear HL; rintro e w1 ⟨rfl, hb1⟩
           have f1 := Fr.of_below0 hb1
           have F1 := Lib.hid (F0.out.trans f1)
           have bk1 := f1.heap BK0.out id
           clear b0 b1 b2 b3 b4
           obtain ⟨⟨b0, b1, b2, b3, b4⟩, -⟩ := blk5 bk1
           clear bk1 hb1 f1 F0 BK0)
        | (go_at_call 14; with_reducible refine (stelelaw05_Own_H.calls k m p q A3 c3 l3 (fun _ => False) A4 c4 l4 m p q l5 l4 w1 w1 (Below.refl _ _) (fun W_ hK_ => C_kept (Kd.C_below R3.out (F1.out.below (Nat.le_refl _) (fun _ _ => id))) hK_) hc3 HO.out).mono ?_; clear HO; rintro e w2 ⟨v3, rfl, hR2, hb2, -⟩
           have f2 := Fr.of_below0 hb2
           have F2 := Lib.hid (F1.out.trans f2)
           have hR2b := Kd.R_mono hR2 (fun _ _ => trivial : ∀ k_, _ → (fun _ : Nat => True) k_)
           obtain ⟨A2, c2, rfl⟩ := Kd.R_slice hR2b
           have HR2 := Lib.hid hR2b
           clear hb2 f2 hR2 hR2b b0 b1 b2 b3 b4)
        | (go_at_call 13; with_reducible refine (sigv4_Attach.calls k m p q A2 c2 l5 A4 c4 l4 who sec t r1 r2 r3 r4 r5 _ w2 (Kd.R_reads' HR2.out).2.2 (Kd.R_reads' HR2.out).2.1 (Kd.C_below R4.out (F2.out.below (Nat.le_refl _) (fun _ _ => id))) hc4 HA.out).mono ?_; clear HA; rintro e w3 ⟨v3, v4, rfl, hR3, hR4, hb3⟩
           have F3 := Lib.hid (F2.out.trans (Fr.of_below0 hb3))
           obtain ⟨A6, c6, rfl⟩ := Kd.R_slice hR3
           obtain ⟨A7, c7, rfl⟩ := Kd.R_slice hR4
           have HR3 := Lib.hid hR3
           have HR4 := Lib.hid hR4
           have F4 := Lib.hid (F3.out.alloc (.cells #[.string r1, .string r2, .string r3, .slice A6 r4.length c6, .slice A7 r5.length c7] 44))
           have X3 := Lib.hid (Kd.C_below (Kd.R_reads' hR3).2.2 (below_alloc (Below.refl _ _) (.cells #[.string r1, .string r2, .string r3, .slice A6 r4.length c6, .slice A7 r5.length c7] 44)))
           have X4 := Lib.hid (Kd.C_below (Kd.R_reads' hR4).2.2 (below_alloc (Below.refl _ _) (.cells #[.string r1, .string r2, .string r3, .slice A6 r4.length c6, .slice A7 r5.length c7] 44)))
           obtain ⟨⟨d0, d1, d2, d3, d4⟩, -⟩ := blk5 (heap_alloc_new w3 (.cells #[.string r1, .string r2, .string r3, .slice A6 r4.length c6, .slice A7 r5.length c7] 44))
           have BD := Lib.hid (heap_alloc_new w3 (.cells #[.string r1, .string r2, .string r3, .slice A6 r4.length c6, .slice A7 r5.length c7] 44))
           clear hR3 hR4 hb3 F2 HR2)
        | (go_at_call 15; with_reducible refine (sigv4_Verify.calls k r1 r2 r3 A6 c6 r4 A7 c7 r5 sec now _ _ X3.out (Kd.R_reads' HR3.out).2.1 X4.out (Kd.R_reads' HR4.out).2.1 HV1.out (mxk hM (F4.out.below (Nat.le_refl _) (fun _ _ => id)))).mono ?_; clear HV1; rintro e w5 ⟨rfl, hb5⟩
           have f5 := Fr.of_below0 hb5
           have F5 := Lib.hid (F4.out.trans f5)
           have Y3 := Lib.hid (Kd.C_below X3.out hb5)
           have Y4 := Lib.hid (Kd.C_below X4.out hb5)
           have bd5 := f5.heap BD.out id
           clear d0 d1 d2 d3 d4
           obtain ⟨⟨d0, d1, d2, d3, d4⟩, -⟩ := blk5 bd5
           clear bd5 hb5 f5 X3 X4 F4 BD)
        | (go_at_call 15; with_reducible refine (sigv4_Verify.calls k r1 r2 r3 A6 c6 r4 A7 c7 r5 sec t 0 w5 Y3.out (Kd.R_reads' HR3.out).2.1 Y4.out (Kd.R_reads' HR4.out).2.1 HV2.out (mxk hM (F5.out.below (Nat.le_refl _) (fun _ _ => id)))).mono ?_; clear HV2; rintro e w6 ⟨rfl, hb6⟩
           have F6 := Lib.hid (F5.out.trans (Fr.of_below0 hb6))
           clear hb6 Y3 Y4 F5 HR3 HR4 d0 d1 d2 d3 d4)
        | (go_at_call 6; with_reducible refine (stelelaw06_alive.calls k true w6 (alive_f k hk) (mxk hM (F6.out.below (Nat.le_refl _) (fun _ _ => id)))).mono ?_; rintro e wz ⟨rfl, hbz⟩
           have FZ := Lib.hid (F6.out.trans (Fr.of_below0 hbz))
           clear hbz))
      go_ret
      exact ⟨rfl, FZ.out.below (Nat.le_refl _) (fun _ _ => id)⟩
end Go.Proofs.YtghcadbmjglidaaGreatDoor.Sp
end
section
set_option linter.unusedVariables false
set_option maxRecDepth 100000
namespace Go.Proofs.YtghcadbmjglidaaGreatDoor.Sp
open Go.RowKit Go.ChangeShapes Go.WideShapes Go.Proofs.YtghcadbmjglidaaGreatDoor.PSg Go.Proofs.YtghcadbmjglidaaGreatDoorW.PrintWords Go.Proofs.YtghcadbmjglidaaGreatDoorW.PrintLast
theorem ucells_two {w : World} {a : Addr} {cs : List Value} (h : w.cells? 0 a 2 = some cs) : ∃ u v, cs = [u, v] ∧ w.cell? (a.add 0) = some u ∧ w.cell? (a.add 1) = some v := by
  unfold World.cells? at h
  rw [if_pos (Nat.zero_le _)] at h
  cases h0 : w.cell? (a.add 0) with
  | none => simp [List.range_succ, h0] at h
  | some u =>
    cases h1 : w.cell? (a.add 1) with
    | none => simp [List.range_succ, h0, h1] at h
    | some v => exact ⟨u, v, by simpa [List.range_succ, h0, h1] using h.symm, rfl, rfl⟩
theorem umem_weightsAll {H : Type} {P : Program} {e : TypeId} : ∀ {l : List (DataW H)} {d : DataW H} {n : Nat}, d ∈ l → n ∈ d.weights P e → n ∈ DataW.weightsAll P e l
  | d0 :: r, d, n, hd, hn => by
    simp only [DataW.weightsAll, List.mem_append]
    rcases List.mem_cons.1 hd with rfl | h
    · exact Or.inl hn
    · exact Or.inr (umem_weightsAll h hn)
theorem open_intsC {H : Type} {enc : TypeId × Value → H} {W : World} {t e : TypeId} {k : IntKind} {B fuel : Nat} {cs : List Value} {x : DataW H × List MemPlace} (ht : Tryz.prog.underlying t = some (.slice e)) (he : Tryz.prog.underlying e = some (.int k)) (hc : Tryz.prog.cellsOf e = 1) (hB : Tryz.prog.bytesOf e = B) (hB0 : 0 < B)
    (h : DataW.trod enc Tryz.prog W 0 (fun _ => true) true fuel t cs = some x) (hsz : ∀ n ∈ x.1.weights Tryz.prog t, n ≤ 140737488351232) :
    ∃ (A : Option Addr) (c : Nat) (l : List Int), cs = [.slice A l.length c] ∧ Kd.C (Kd.int k) W A l.length l ∧ l.length ≤ c ∧ l.length ≤ 140737488351232 ∧ ∀ n ∈ l, (Lit.int k n).wf = true := by
  rcases open_ints ht he hc h with ⟨rfl, _⟩ | ⟨a, len, cap, zs, rfl, _, hl, hm, hz, hx, hcell, hwz⟩
  · exact ⟨none, 0, [], rfl, Kd.C_nil _ _, Nat.le_refl _, by simp, fun n hn => by simp at hn⟩
  · have hz' : zs.length = cap := by simpa using hz
    obtain ⟨l, rfl, hr, _, hwl, hlc⟩ := ReadsInt.ofRowC (k := k) (w := W) (a := some a) (len := len) (cap := cap) (zs := zs) (.inr ⟨a, rfl, hl, hm, hz', hcell, hwz⟩)
    refine ⟨some a, cap, l, rfl, Kd.C_of_reads (d := (0 : Int)) (h1 := fun _ => rfl) hr, hlc, ?_, hwl⟩
    have hn := hsz (((lits (H := H) k (zs.take l.length)).length + (lits (H := H) k (zs.drop l.length)).length) * B) (by rw [hx]; simp [DataW.weights, ht, hB])
    have h1 : (lits (H := H) k (zs.take l.length)).length + (lits (H := H) k (zs.drop l.length)).length = zs.length := by
      simp [lits]
      omega
    rw [h1, hz'] at hn
    have : cap ≤ cap * B := Nat.le_mul_of_pos_right _ hB0
    omega
theorem open_str {H : Type} {enc : TypeId × Value → H} {W : World} {fuel : Nat} {u : Value} {x : DataW H × List MemPlace} (h : DataW.trod enc Tryz.prog W 0 (fun _ => true) true fuel 9 [u] = some x) (hsz : ∀ n ∈ x.1.weights Tryz.prog 9, n ≤ 140737488351232) : ∃ s : ByteArray, u = .string s ∧ s.size ≤ 140737488351232 := by
  obtain ⟨s, e0, x0, _⟩ := DataW.trod_string Tryz.underlying9 h
  refine ⟨s, by simpa using e0, ?_⟩
  have := hsz s.data.toList.length (by rw [x0]; simp [DataW.weights])
  rwa [← Lib.size_eq] at this
theorem open_hdr {H : Type} {enc : TypeId × Value → H} {W : World} {fuel : Nat} {a : Addr} {cs : List Value} {x : DataW H × List MemPlace} (hc : W.cells? 0 a 2 = some cs) (h : DataW.trod enc Tryz.prog W 0 (fun _ => true) true fuel 52 cs = some x) (hsz : ∀ n ∈ x.1.weights Tryz.prog 52, n ≤ 140737488351232) :
    ∃ q : S52, W.cell? (a.add 0) = some (.string q.f0) ∧ W.cell? (a.add 1) = some (.string q.f1) ∧ q.f0.size ≤ 140737488351232 ∧ q.f1.size ≤ 140737488351232 := by
  obtain ⟨u, v, rfl, hu, hv⟩ := ucells_two hc
  obtain ⟨y0, y1, n, rfl, _, h0, h1⟩ := trod_struct2 Tryz.underlying52 h
  have c9 : Tryz.prog.cellsOf 9 = 1 := by kernel_rfl
  rw [show (_ : Field).type = 9 from rfl, c9] at h0 h1
  have h0' : DataW.trod enc Tryz.prog W 0 (fun _ => true) true n 9 [u] = some y0 := h0
  have h1' : DataW.trod enc Tryz.prog W 0 (fun _ => true) true n 9 [v] = some y1 := h1
  obtain ⟨s0, rfl, z0⟩ := open_str h0' (fun n hn => hsz n (by
    simp only [DataW.weights, Tryz.underlying52]
    exact DataW.weights_mem_each (j := 0) rfl rfl n hn))
  obtain ⟨s1, rfl, z1⟩ := open_str h1' (fun n hn => hsz n (by
    simp only [DataW.weights, Tryz.underlying52]
    exact DataW.weights_mem_each (j := 1) rfl rfl n hn))
  exact ⟨⟨s0, s1⟩, hu, hv, z0, z1⟩
theorem open_hdrs {H : Type} {enc : TypeId × Value → H} {W : World} {fuel : Nat} {cs : List Value} {x : DataW H × List MemPlace} (hf : DataW.trod enc Tryz.prog W 0 (fun _ => true) true fuel 36 cs = some x) (hsz : ∀ n ∈ x.1.weights Tryz.prog 36, n ≤ 140737488351232) :
    ∃ (A : Option Addr) (c : Nat) (l : List S52), cs = [.slice A l.length c] ∧ Kd.C k52 W A l.length l ∧ l.length ≤ c ∧ l.length ≤ 140737488351232 ∧ ∀ x ∈ l, x.f0.size ≤ 140737488351232 ∧ x.f1.size ≤ 140737488351232 := by
  rcases Go.Deep.open_slice Tryz.underlying36 hf with ⟨rfl, _⟩ | ⟨a, len, cap, m, n, D, Pl, rfl, _, hl, hmx, hm, hx, hcells⟩
  · exact ⟨none, 0, [], rfl, Kd.C_nil _ _, Nat.le_refl _, by simp, fun x hx => by cases hx⟩
  · have hm' : m = cap := hm
    have c2 : Tryz.prog.cellsOf 52 = 2 := by kernel_rfl
    have hd : x.1 = .slice ((List.range len).map D) ((List.range (m - len)).map fun j => D (len + j)) := congrArg Prod.fst hx
    have each : ∀ i, i < len → ∃ q : S52, W.cell? ((a.add (i * 2)).add 0) = some (.string q.f0) ∧ W.cell? ((a.add (i * 2)).add 1) = some (.string q.f1) ∧ q.f0.size ≤ 140737488351232 ∧ q.f1.size ≤ 140737488351232 := by
      intro i hi
      obtain ⟨cs', h1, h2⟩ := hcells i (by omega)
      rw [c2] at h1
      have hmem : D i ∈ (List.range len).map D := List.mem_map.2 ⟨i, List.mem_range.2 hi, rfl⟩
      exact open_hdr h1 h2 (fun n hn => hsz n (by
        rw [hd]
        simp only [DataW.weights, Tryz.underlying36, List.mem_cons, List.mem_append]
        exact Or.inr (Or.inl (umem_weightsAll hmem hn))))
    haveI : Inhabited S52 := ⟨z52⟩
    obtain ⟨f, hf'⟩ := Go.Deep.choose_lt each
    have hlen : ((List.range len).map f).length = len := by simp
    have hget : ∀ k, k < len → ((List.range len).map f)[k]? = some (f k) := fun k hk => by
      simp [List.getElem?_map, List.getElem?_range hk]
    have hcb : len ≤ 140737488351232 := by
      have hn := hsz ((((List.range len).map D).length + ((List.range (m - len)).map fun j => D (len + j)).length) * Tryz.prog.bytesOf 52) (by rw [hd]; simp [DataW.weights, Tryz.underlying36])
      rw [show Tryz.prog.bytesOf 52 = 32 by kernel_rfl] at hn
      simp at hn
      omega
    refine ⟨some a, cap, (List.range len).map f, by rw [hlen], ⟨rfl, by rw [hlen]; unfold maxLen at hmx; omega, fun _ => ⟨a, rfl, fun j p hj => ?_⟩⟩, by rw [hlen]; exact hl, by rw [hlen]; exact hcb, fun x hx => ?_⟩
    · have hjl : j < len := by have := (List.getElem?_eq_some_iff.1 hj).1; rwa [hlen] at this
      rw [hget j hjl] at hj
      obtain rfl := Option.some.inj hj
      obtain ⟨g0, g1, _, _⟩ := hf' j hjl
      rw [Go.Deep.add_add] at g0 g1
      refine ⟨[.string (f j).f0, .string (f j).f1], rfl, k52_mk W _, fun i u hu => ?_⟩
      match i, hu with
      | 0, hu =>
        have e : Value.string (f j).f0 = u := by simpa using hu
        rw [← e]; exact g0
      | 1, hu =>
        have e : Value.string (f j).f1 = u := by simpa using hu
        rw [← e]; exact g1
      | i + 2, hu => simp at hu
    · obtain ⟨j, hj, rfl⟩ := List.mem_map.1 hx
      have := hf' j (List.mem_range.1 hj)
      exact ⟨this.2.2.1, this.2.2.2⟩
theorem byte_of_wf {x : Int} (h : (Lit.int .u8 x).wf = true) : 0 ≤ x ∧ x < 256 := by
  have h1 : IntKind.u8.min = 0 := rfl
  have h2 : IntKind.u8.max = 255 := rfl
  simp only [Lit.wf, Bool.and_eq_true, decide_eq_true_eq] at h
  omega
theorem u64_of_wf {x : Int} (h : (Lit.int .u64 x).wf = true) : 0 ≤ x ∧ x < 18446744073709551616 := by
  have h1 : IntKind.u64.min = 0 := rfl
  have h2 : IntKind.u64.max = 18446744073709551615 := rfl
  simp only [Lit.wf, Bool.and_eq_true, decide_eq_true_eq] at h
  omega
theorem open_req {H : Type} {enc : TypeId × Value → H} {W : World} {v : Value} {d : DataW H} {p : List MemPlace} {base : Nat} (hval : Value.okWide Tryz.prog W .any base 39 v) (h : DataW.Trod enc Tryz.prog W 0 (fun _ => true) true 39 v d p) (hsz : ∀ n ∈ d.weights Tryz.prog 39, n ≤ 140737488351232) :
    ∃ (m q r : ByteArray) (A3 : Option Addr) (c3 : Nat) (l3 : List S52) (A4 : Option Addr) (c4 : Nat) (l4 : List Int), v = .agg #[.string m, .string q, .string r, .slice A3 l3.length c3, .slice A4 l4.length c4] ∧ Kd.C k52 W A3 l3.length l3 ∧ l3.length ≤ c3 ∧ Kd.C (Kd.int .u8) W A4 l4.length l4 ∧ l4.length ≤ c4 ∧
      m.size ≤ 140737488351232 ∧ q.size ≤ 140737488351232 ∧ r.size ≤ 140737488351232 ∧ l3.length ≤ 140737488351232 ∧ (∀ x ∈ l3, x.f0.size ≤ 140737488351232 ∧ x.f1.size ≤ 140737488351232) ∧ l4.length ≤ 140737488351232 ∧ ∀ x ∈ l4, 0 ≤ x ∧ x < 256 := by
  have c39 : Tryz.prog.cellsOf 39 = 5 := by kernel_rfl
  obtain ⟨cs, rfl, hcs⟩ := okWide_struct Tryz.underlying39 hval
  rw [c39] at hcs
  obtain ⟨v0, v1, v2, v3, v4, rfl⟩ : ∃ v0 v1 v2 v3 v4, cs = #[v0, v1, v2, v3, v4] := by
    obtain ⟨l⟩ := cs
    match l, hcs with
    | [v0, v1, v2, v3, v4], _ => exact ⟨v0, v1, v2, v3, v4, rfl⟩
  obtain ⟨fuel, hf⟩ := h
  obtain ⟨xs, n, rfl, hx, _, hxl, hfs⟩ := DataW.trod_struct Tryz.underlying39 hf
  have hcells : (Value.agg #[v0, v1, v2, v3, v4]).cells.toList = [v0, v1, v2, v3, v4] := rfl
  rw [hcells] at hfs
  obtain ⟨y0, y1, y2, y3, y4, rfl⟩ : ∃ y0 y1 y2 y3 y4, xs = [y0, y1, y2, y3, y4] := by
    match xs, hxl with
    | [y0, y1, y2, y3, y4], _ => exact ⟨y0, y1, y2, y3, y4, rfl⟩
  have c9 : Tryz.prog.cellsOf 9 = 1 := by kernel_rfl
  have c36 : Tryz.prog.cellsOf 36 = 1 := by kernel_rfl
  have c37 : Tryz.prog.cellsOf 37 = 1 := by kernel_rfl
  have f0 := hfs 0 _ rfl
  have f1 := hfs 1 _ rfl
  have f2 := hfs 2 _ rfl
  have f3 := hfs 3 _ rfl
  have f4 := hfs 4 _ rfl
  rw [show (_ : Field).type = 9 from rfl, c9] at f0 f1 f2
  rw [show (_ : Field).type = 36 from rfl, c36] at f3
  rw [show (_ : Field).type = 37 from rfl, c37] at f4
  have f0' : DataW.trod enc Tryz.prog W 0 (fun _ => true) true n 9 [v0] = some y0 := f0
  have f1' : DataW.trod enc Tryz.prog W 0 (fun _ => true) true n 9 [v1] = some y1 := f1
  have f2' : DataW.trod enc Tryz.prog W 0 (fun _ => true) true n 9 [v2] = some y2 := f2
  have f3' : DataW.trod enc Tryz.prog W 0 (fun _ => true) true n 36 [v3] = some y3 := f3
  have f4' : DataW.trod enc Tryz.prog W 0 (fun _ => true) true n 37 [v4] = some y4 := f4
  have hd : d = .agg [y0.1, y1.1, y2.1, y3.1, y4.1] := congrArg Prod.fst hx
  obtain ⟨s0, rfl, z0⟩ := open_str f0' (fun n hn => hsz n (by
    rw [hd]
    simp only [DataW.weights, Tryz.underlying39]
    exact DataW.weights_mem_each (j := 0) rfl rfl n hn))
  obtain ⟨s1, rfl, z1⟩ := open_str f1' (fun n hn => hsz n (by
    rw [hd]
    simp only [DataW.weights, Tryz.underlying39]
    exact DataW.weights_mem_each (j := 1) rfl rfl n hn))
  obtain ⟨s2, rfl, z2⟩ := open_str f2' (fun n hn => hsz n (by
    rw [hd]
    simp only [DataW.weights, Tryz.underlying39]
    exact DataW.weights_mem_each (j := 2) rfl rfl n hn))
  obtain ⟨A3, c3, l3, e3, hC3, hlc3, hl3, hs3⟩ := open_hdrs f3' (fun n hn => hsz n (by
    rw [hd]
    simp only [DataW.weights, Tryz.underlying39]
    exact DataW.weights_mem_each (j := 3) rfl rfl n hn))
  obtain ⟨A4, c4, l4, e4, hC4, hlc4, hl4, hw4⟩ := open_intsC (B := 1) Tryz.underlying37 Tryz.underlying5 (by kernel_rfl) (by kernel_rfl) (by decide) f4' (fun n hn => hsz n (by
    rw [hd]
    simp only [DataW.weights, Tryz.underlying39]
    exact DataW.weights_mem_each (j := 4) rfl rfl n hn))
  have a3 : v3 = .slice A3 l3.length c3 := by simpa using e3
  have a4 : v4 = .slice A4 l4.length c4 := by simpa using e4
  exact ⟨s0, s1, s2, A3, c3, l3, A4, c4, l4, by rw [a3, a4], hC3, hlc3, hC4, hlc4, z0, z1, z2, hl3, hs3, hl4, fun x hx => byte_of_wf (hw4 x hx)⟩
end Go.Proofs.YtghcadbmjglidaaGreatDoor.Sp
end
