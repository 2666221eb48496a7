/- The walks of the small functions of uri and of its reference. -/
import Derived.Test.YtdfkinkihkgdbaaDoorProg
import Derived.Test.YtdfkinkihkgdbaaDoorCore
import Derived.Test.YtdfkinkihkgdbaaDoorUriMath
import Derived.Test.YtdfkinkihkgdbaaDoorShelf
import Derived.Lib.Strings
import Derived.WalkKit
import Derived.Lib.Hide
import Derived.WalkSpells
import Derived.WalkLawsBesides
import Derived.KernelRfl
set_option linter.unusedVariables false
namespace Go.Proofs.YtdfkinkihkgdbaaDoor
open Go.RowKit

theorem idx_plain (c : UInt8) : (0 ≤ Lib.indexByte [45, 46, 95, 126] c) ↔ (c = 45 ∨ c = 46 ∨ c = 95 ∨ c = 126) := by
  simp only [Lib.indexByte]
  by_cases h1 : c = 45
  · subst h1; decide
  by_cases h2 : c = 46
  · subst h2; decide
  by_cases h3 : c = 95
  · subst h3; decide
  by_cases h4 : c = 126
  · subst h4; decide
  have g : ∀ a : UInt8, c ≠ a → (a == c) = false := fun a h => by simpa using fun e => h e.symm
  simp [g _ h1, g _ h2, g _ h3, g _ h4, h1, h2, h3, h4]

theorem plain_eq (c : UInt8) : Uri.plain c = decide ((97 ≤ (c.toNat : Int) ∧ (c.toNat : Int) ≤ 122) ∨ (65 ≤ (c.toNat : Int) ∧ (c.toNat : Int) ≤ 90) ∨ (48 ≤ (c.toNat : Int) ∧ (c.toNat : Int) ≤ 57) ∨ 0 ≤ Lib.indexByte [45, 46, 95, 126] c) := by
  rw [Bool.eq_iff_iff]
  simp only [Uri.plain, Bool.or_eq_true, Bool.and_eq_true, decide_eq_true_eq, UInt8.le_iff_toNat_le, beq_iff_eq, idx_plain, ← UInt8.toNat_inj, UInt8.reduceToNat]
  omega

theorem ret_bool {a b : Bool} (h : a = b) : Ending.returned (.bool a) = .returned (.bool b) := by rw [h]

set_option maxHeartbeats 1000000 in
theorem uri_plain (c : UInt8) (w : World) :
    Calls Tryd.prog 30 #[.int .u8 (c.toNat : Int)] w fun e w' => e = .returned (.bool (Uri.plain c)) ∧ w = w' := by
  have hp := Lib.hid (plain_eq c)
  go_enter Tryd.func30, Tryd.ntmps30
  go_wp2_with (go_at_call 43; refine (Tryd.strings_IndexByte _ _ _).mono ?_; rintro e w' ⟨rfl, rfl⟩)
  all_goals (go_ret; exact ⟨ret_bool (by rw [hp.out]; first | (symm; rw [decide_eq_true_iff]; omega) | (rw [decide_eq_decide]; omega)), rfl⟩)

/-- digit: a half byte's value; -1: none. -/
def digZ (c : UInt8) : Int := if Uri.hexV c < 16 then ((Uri.hexV c).toNat : Int) else -1

theorem digit_tab (c : UInt8) : Lib.indexByte [48, 49, 50, 51, 52, 53, 54, 55, 56, 57, 65, 66, 67, 68, 69, 70] (if 97 ≤ (c.toNat : Int) ∧ (c.toNat : Int) ≤ 102 then ((c.toNat : Int) - 32).toNat.toUInt8 else c) = digZ c := by
  have key : ∀ i : Fin 256, Lib.indexByte [48, 49, 50, 51, 52, 53, 54, 55, 56, 57, 65, 66, 67, 68, 69, 70] (if 97 ≤ ((⟨⟨i⟩⟩ : UInt8).toNat : Int) ∧ ((⟨⟨i⟩⟩ : UInt8).toNat : Int) ≤ 102 then (((⟨⟨i⟩⟩ : UInt8).toNat : Int) - 32).toNat.toUInt8 else ⟨⟨i⟩⟩) = digZ ⟨⟨i⟩⟩ := by decide +kernel
  exact key c.toBitVec.toFin

set_option maxHeartbeats 1000000 in
theorem uri_digit (c : UInt8) (w : World) :
    Calls Tryd.prog 36 #[.int .u8 (c.toNat : Int)] w fun e w' => e = .returned (.int .i64 (digZ c)) ∧ w = w' := by
  have hp := Lib.hid (digit_tab c)
  go_enter Tryd.func36, Tryd.ntmps36
  go_wp2_with (go_at_call 43; refine (Tryd.strings_IndexByte _ _ _).mono ?_; rintro e w' ⟨rfl, rfl⟩)
  all_goals (go_ret; refine ⟨?_, rfl⟩; rw [← hp.out]; first | (rw [if_pos ⟨by omega, by omega⟩]; rfl) | (rw [if_neg (by omega)]; simp))

theorem idx_cut (c : UInt8) (l : List UInt8) : (Lib.indexByte l c = -1 ∧ (∀ x ∈ l, x ≠ c)) ∨ ∃ h t, l = h ++ c :: t ∧ (∀ x ∈ h, x ≠ c) ∧ Lib.indexByte l c = h.length := by
  induction l with
  | nil => exact .inl ⟨rfl, by simp⟩
  | cons x l ih =>
    by_cases hx : x = c
    · exact .inr ⟨[], l, by simp [hx], by simp, by rw [Lib.indexByte]; simp [hx]⟩
    · have hx' : (x == c) = false := by simpa using hx
      rcases ih with ⟨h1, h2⟩ | ⟨h, t, h1, h2, h3⟩
      · exact .inl ⟨by simp [Lib.indexByte, hx', h1], fun y hy => (List.mem_cons.1 hy).elim (fun e => e ▸ hx) (h2 y)⟩
      · refine .inr ⟨x :: h, t, by simp [h1], fun y hy => (List.mem_cons.1 hy).elim (fun e => e ▸ hx) (h2 y), ?_⟩
        have : ((Lib.indexByte l c == -1) = false) := by rw [h3]; simp <;> omega
        simp [Lib.indexByte, hx', this, h3]

/-- A text as a value. -/
abbrev str (l : List UInt8) : Value := .string ⟨l.toArray⟩

theorem ext_list (l : List UInt8) (a b : Nat) : (⟨l.toArray⟩ : ByteArray).extract a b = ⟨((l.drop a).take (b - a)).toArray⟩ := Lib.extract_eq _ a b

set_option maxHeartbeats 1000000 in
theorem cut_lite (l : List UInt8) (c : UInt8) (w : World) (hl : l.length ≤ 1000000000) :
    Calls Tryd.prog 35 #[str l, .string ⟨#[c]⟩] w fun e w' => e = .returned (.tuple #[str (Uri.cut1 c l).1, str (Uri.cut1 c l).2.1, .bool (Uri.cut1 c l).2.2]) ∧ ∃ n, w' = w.drewN n := by
  rcases idx_cut c l with ⟨h1, h2⟩ | ⟨h, t, rfl, h2, h3⟩
  · have hc := Lib.hid (Uri.cut1_not c l h2)
    go_enter Tryd.func35, Tryd.ntmps35
    go_wp2_with (go_at_call 48; refine (Tryd.stringslite_Index_one _ _ _).mono ?_; rintro e w' ⟨rfl, rfl⟩; rw [show Lib.indexByte (⟨l.toArray⟩ : ByteArray).data.toList c = -1 from h1])
    go_ret3
    rw [hc.out]
    exact ⟨rfl, 0, rfl⟩
  · have hc := Lib.hid (Uri.cut1_at c h t h2)
    have H3 := Lib.hid h3
    clear h3
    obtain ⟨s, hs⟩ : ∃ s : ByteArray, s = ⟨(h ++ c :: t).toArray⟩ := ⟨_, rfl⟩
    have hsz : h.length + 1 ≤ s.size := by rw [hs]; show _ ≤ (h ++ c :: t).length; simp
    have hsm : s.size ≤ 1000000000 := by rw [hs]; exact hl
    have hi : Hid (Lib.indexByte s.data.toList c = h.length) := by rw [hs]; exact H3.out
    have e1 : Hid (s.extract 0 h.length = ⟨h.toArray⟩) := by show _ = _; rw [hs, ext_list]; simp
    have e2 : Hid (s.extract (h.length + 1) s.size = ⟨t.toArray⟩) := by
      show _ = _
      rw [hs, ext_list]
      congr 2
      rw [List.take_of_length_le (by simp [ByteArray.size]; omega)]
      simp
    show Calls _ _ #[.string ⟨(h ++ c :: t).toArray⟩, _] _ _
    rw [← hs]
    clear hs H3 hl
    rw [hc.out]
    generalize h.length = n at *
    go_enter Tryd.func35, Tryd.ntmps35
    go_wp2_with (go_at_call 48; refine (Tryd.stringslite_Index_one _ _ _).mono ?_; rintro e w' ⟨rfl, rfl⟩; rw [hi.out])
    have b1 : (n : Int) ≤ (s.size : Int) := by omega
    have b2 : (n : Int) + 1 ≤ (s.size : Int) := by omega
    go_quiet (fail)
    go_wp2
    go_ret3
    refine ⟨?_, nq, rfl⟩
    show Ending.returned (.tuple #[.string (s.extract 0 n), .string (s.extract (n + 1) s.size), .bool true]) = _
    rw [e1.out, e2.out]

theorem strings_cut (l : List UInt8) (c : UInt8) (w : World) (hl : l.length ≤ 1000000000) :
    Calls Tryd.prog 16 #[str l, .string ⟨#[c]⟩] w fun e w' => e = .returned (.tuple #[str (Uri.cut1 c l).1, str (Uri.cut1 c l).2.1, .bool (Uri.cut1 c l).2.2]) ∧ ∃ n, w' = w.drewN n := by
  go_enter Tryd.func16, Tryd.ntmps16
  go_wp2_with (go_at_call 35; refine (cut_lite _ _ _ hl).mono ?_; rintro e w' ⟨rfl, n, rfl⟩)
  go_ret3
  exact ⟨rfl, n, rfl⟩

/-- cmp.Or: the first that is not zero. -/
def orZ : List Int → Int
  | [] => 0
  | a :: t => if a = 0 then orZ t else a

theorem orZ_drop (l : List Int) (k : Nat) (h : k < l.length) : orZ (l.drop k) = if l.getD k 0 = 0 then orZ (l.drop (k + 1)) else l.getD k 0 := by
  rw [List.drop_eq_getElem_cons h]; simp [orZ, List.getD_eq_getElem?_getD, List.getElem?_eq_getElem h]

set_option maxHeartbeats 1000000 in
theorem or_errno (l : List Int) (ad : Addr) (c : Nat) (w : World) (hl : l.length ≤ 1000000000) (hc : ∀ i, i < l.length → w.cell? (ad.add i) = some (.int .i64 (l.getD i 0))) :
    Calls Tryd.prog 18 #[.slice (some ad) l.length c] w fun e w' => e = .returned (.int .i64 (orZ l)) ∧ w = w' := by
  have hO := fun k h => Lib.hid (orZ_drop l k h)
  have hE : Hid (orZ (l.drop l.length) = 0) := by show _ = _; rw [List.drop_length]; rfl
  have h0 : Hid (orZ l = orZ (l.drop 0)) := rfl
  obtain ⟨n, hn⟩ : ∃ n, n = l.length := ⟨_, rfl⟩
  rw [← hn] at hl hc hO hE ⊢
  clear hn
  obtain ⟨f, hf⟩ : ∃ f : Nat → Int, ∀ i, l.getD i 0 = f i := ⟨_, fun _ => rfl⟩
  simp only [hf] at hc hO
  clear hf
  go_enter Tryd.func18, Tryd.ntmps18
  go_wp2

  go_loop [8] (fun i => ∃ k : Nat, k ≤ n ∧ i = .int .i64 k ∧ Hid (orZ l = orZ (l.drop k))) (fun i => n - (intOf i).toNat)
  case atStart => exact ⟨0, Nat.zero_le _, rfl, h0⟩
  case round =>
    obtain ⟨k, hk, rfl, hr⟩ := hrel
    by_cases hlt : k < n
    · have hck := hc k hlt
      have hok := hO k hlt
      clear hc hO
      by_cases hz : f k = 0
      · have hz1 : (f k != 0) = false := by simp [hz]
        have Hz := Lib.hid hz
        clear hz
        go_wp2
        go_round
        case rel => exact ⟨k + 1, by omega, by go_num, by show _ = _; rw [hr.out, hok.out, if_pos Hz.out]⟩
        case measure => simp [intOf]; omega
      · have hz1 : (f k != 0) = true := by simp [hz]
        have Hz := Lib.hid hz
        clear hz
        go_wp2
        go_ret
        exact ⟨by rw [hr.out, hok.out, if_neg Hz.out]; rfl, rfl⟩
    · have hkn : Hid (k = n) := by show _ = _; omega
      clear hc
      go_wp2
      go_ret
      exact ⟨by rw [hr.out, hkn.out, hE.out]; rfl, rfl⟩
end Go.Proofs.YtdfkinkihkgdbaaDoor
