/- The walks of the reference of layer 4. -/
import Derived.Test.YtdfkinkihkgdbaaUriC
set_option linter.unusedVariables false
namespace Go.Proofs.Ytdfkinkihkgdbaa
open Go.RowKit

theorem plain_eq2 (c : UInt8) : Uri.plain c = decide ((97 ≤ (c.toNat : Int) ∧ (c.toNat : Int) ≤ 122) ∨ (65 ≤ (c.toNat : Int) ∧ (c.toNat : Int) ≤ 90) ∨ (48 ≤ (c.toNat : Int) ∧ (c.toNat : Int) ≤ 57) ∨ (c.toNat : Int) = 45 ∨ (c.toNat : Int) = 46 ∨ (c.toNat : Int) = 95 ∨ (c.toNat : Int) = 126) := by
  rw [Bool.eq_iff_iff]
  simp only [Uri.plain, Bool.or_eq_true, Bool.and_eq_true, decide_eq_true_eq, UInt8.le_iff_toNat_le, beq_iff_eq, ← UInt8.toNat_inj, UInt8.reduceToNat]
  omega

theorem bool_dec {b : Bool} {p : Prop} [Decidable p] (h : b = true ↔ p) : b = decide p := by rw [Bool.eq_iff_iff, h, decide_eq_true_iff]

set_option maxHeartbeats 2000000 in
theorem ref_plain (c : UInt8) (w : World) :
    Calls Try.prog 38 #[.int .u8 (c.toNat : Int)] w fun e w' => e = .returned (.bool (Uri.plain c)) ∧ w = w' := by
  have hp := Lib.hid (plain_eq2 c)
  go_enter Try.func38, Try.ntmps38
  go_wp2
  all_goals go_ret
  all_goals (refine ⟨ret_bool ?_, rfl⟩; rw [hp.out]; refine bool_dec ?_; simp only [Array.getD, Bool.or_eq_true, decide_eq_true_eq, beq_iff_eq, true_iff]; omega)

theorem digit_eq (c : UInt8) : (Uri.hexV c).toNat = if 48 ≤ c.toNat ∧ c.toNat ≤ 57 then c.toNat - 48 else if 97 ≤ c.toNat ∧ c.toNat ≤ 102 then c.toNat - 97 + 10 else if 65 ≤ c.toNat ∧ c.toNat ≤ 70 then c.toNat - 65 + 10 else 16 := by
  have key : ∀ i : Fin 256, (Uri.hexV ⟨⟨i⟩⟩).toNat = if 48 ≤ (⟨⟨i⟩⟩ : UInt8).toNat ∧ (⟨⟨i⟩⟩ : UInt8).toNat ≤ 57 then (⟨⟨i⟩⟩ : UInt8).toNat - 48 else if 97 ≤ (⟨⟨i⟩⟩ : UInt8).toNat ∧ (⟨⟨i⟩⟩ : UInt8).toNat ≤ 102 then (⟨⟨i⟩⟩ : UInt8).toNat - 97 + 10 else if 65 ≤ (⟨⟨i⟩⟩ : UInt8).toNat ∧ (⟨⟨i⟩⟩ : UInt8).toNat ≤ 70 then (⟨⟨i⟩⟩ : UInt8).toNat - 65 + 10 else 16 := by decide +kernel
  exact key c.toBitVec.toFin

theorem ret_i64 {a b : Int} (h : a = b) : Ending.returned (.int .i64 a) = .returned (.int .i64 b) := by rw [h]

set_option maxHeartbeats 2000000 in
theorem ref_digit (c : UInt8) (w : World) :
    Calls Try.prog 41 #[.int .u8 (c.toNat : Int)] w fun e w' => e = .returned (.int .i64 ((Uri.hexV c).toNat : Int)) ∧ w = w' := by
  have hp := Lib.hid (digit_eq c)
  have c0 := c.toNat_lt
  go_enter Try.func41, Try.ntmps41
  go_wp2
  all_goals go_ret
  all_goals (refine ⟨ret_i64 ?_, rfl⟩; rw [hp.out])
  all_goals (try simp only [Array.getD])
  all_goals (repeat' split) <;> omega

/-- What is ahead of the first c, and behind it: as Cut's first two parts. -/
theorem cut1_drop (c : UInt8) (l : List UInt8) (k : Nat) (hk : k < l.length) (hno : ∀ x ∈ l.take k, x ≠ c) (hc : l.getD k 0 = c) : Uri.cut1 c l = (l.take k, l.drop (k + 1), true) := by
  have hs : l = l.take k ++ c :: l.drop (k + 1) := by
    conv => lhs; rw [← List.take_append_drop k l, List.drop_eq_getElem_cons hk]
    simp [List.getD_eq_getElem?_getD, List.getElem?_eq_getElem hk] at hc
    rw [hc]
  conv => lhs; rw [hs]
  exact Uri.cut1_at c _ _ hno

theorem idx_str (l : List UInt8) (k : Nat) (hk : k < l.length) (W : World) :
    (Instr.index 9 (.string ⟨l.toArray⟩) (.int .i64 (k : Int))).run Try.prog W = .ok (.int .u8 ((l.getD k 0).toNat : Int)) W := by
  have hs : (⟨l.toArray⟩ : ByteArray).size = l.length := rfl
  rw [run_index_string W _ _ _ _ Try.underlying9, dif_pos ⟨by omega, by rw [hs]; omega⟩]
  congr 3
  show (l.toArray[(k : Int).toNat]'(by simpa using hk)).toNat = _
  simp [List.getD_eq_getElem?_getD, List.getElem?_eq_getElem hk]

theorem no_snoc {a : List UInt8} {c d : UInt8} (h : ∀ x ∈ a, x ≠ c) (hd : d ≠ c) : ∀ x ∈ a ++ [d], x ≠ c := by
  intro x hx
  rcases List.mem_append.1 hx with h' | h'
  · exact h x h'
  · rw [List.mem_singleton.1 h']; exact hd

set_option maxHeartbeats 2000000 in
theorem ref_first (l : List UInt8) (c : UInt8) (w : World) (hl : l.length ≤ 1000000000) :
    Calls Try.prog 44 #[str l, .int .u8 (c.toNat : Int)] w fun e w' => e = .returned (.tuple #[str (Uri.cut1 c l).1, str (Uri.cut1 c l).2.1]) ∧ ∃ n, w' = w.drewN n := by
  have hI := fun k hk W => idx_str l k hk W
  have hN : Hid ((∀ x ∈ l.take l.length, x ≠ c) → Uri.cut1 c l = (l, [], false)) := fun h => Uri.cut1_not c l (by rwa [List.take_length] at h)
  have hY : ∀ k, k < l.length → Hid ((∀ x ∈ l.take k, x ≠ c) → l.getD k 0 = c → Uri.cut1 c l = (l.take k, l.drop (k + 1), true)) := fun k hk => cut1_drop c l k hk
  have hT : ∀ k, k < l.length → Hid (l.take (k + 1) = l.take k ++ [l.getD k 0]) := take_snoc l
  have e1 : ∀ k, Hid ((⟨l.toArray⟩ : ByteArray).extract 0 k = ⟨(l.take k).toArray⟩) := fun k => by show _ = _; rw [ext_list]; simp
  have e2 : ∀ k, Hid ((⟨l.toArray⟩ : ByteArray).extract (k + 1) l.length = ⟨(l.drop (k + 1)).toArray⟩) := fun k => by
    show _ = _
    rw [ext_list]; congr 2; rw [List.take_of_length_le (by simp)]
  obtain ⟨S, hS⟩ : ∃ S : ByteArray, S = ⟨l.toArray⟩ := ⟨_, rfl⟩
  have hSz : S.size = l.length := by rw [hS]; rfl
  show Calls _ _ #[.string ⟨l.toArray⟩, _] _ _
  rw [← hS] at hI e1 e2 ⊢
  have HS := Lib.hid hS
  rw [← hSz] at hl hI hN hY hT e2
  clear hS hSz
  go_enter Try.func44, Try.ntmps44
  go_wp2
  go_loop [6] (fun i => ∃ k : Nat, k ≤ S.size ∧ i = .int .i64 k ∧ Hid (∀ x ∈ l.take k, x ≠ c)) (fun i => S.size - (intOf i).toNat)
  case atStart => exact ⟨0, Nat.zero_le _, rfl, by show ∀ x ∈ _, _; simp⟩
  case round =>
    obtain ⟨k, hk, rfl, hno⟩ := hrel
    by_cases hlt : k < S.size
    · have i0 := hI k hlt
      have hY' := hY k hlt
      have hT' := hT k hlt
      have e1' := e1 k
      have e2' := e2 k
      clear hI hY hT e1 e2 hN
      by_cases hx : l.getD k 0 = c
      · have hb : (((l.getD k 0).toNat : Int) == (c.toNat : Int)) = true := by rw [hx]; simp
        have hfin : Hid (Uri.cut1 c l = (l.take k, l.drop (k + 1), true)) := hY'.out hno.out hx
        clear hx hT' hY' hno
        generalize l.getD k 0 = d at *
        go_wp2
        have b1 : (k : Int) ≤ (S.size : Int) := by omega
        have b2 : (k : Int) + 1 ≤ (S.size : Int) := by omega
        go_quiet (fail)
        go_wp2
        go_ret2
        refine ⟨?_, _, rfl⟩
        rw [hfin.out]
        show Ending.returned (.tuple #[.string (S.extract 0 k), .string (S.extract (k + 1) S.size)]) = _
        rw [e1'.out, e2'.out]
      · have hb : (((l.getD k 0).toNat : Int) == (c.toNat : Int)) = false := by
          simp only [beq_eq_false_iff_ne, ne_eq]; exact fun e => hx (UInt8.toNat_inj.1 (by omega))
        have HX := Lib.hid hx
        clear hx hY'
        generalize l.getD k 0 = d at *
        go_wp2
        go_round
        case rel => exact ⟨k + 1, by omega, by go_num, by show ∀ x ∈ _, _; rw [hT'.out]; exact no_snoc hno.out HX.out⟩
        case measure => simp [intOf]; omega
    · have hkn : k = S.size := by omega
      have hfin : Hid (Uri.cut1 c l = (l, [], false)) := hN.out (by rw [← hkn]; exact hno.out)
      clear hI hY hT e1 e2 hkn
      go_wp2
      go_ret2
      refine ⟨?_, 0, rfl⟩
      rw [hfin.out, HS.out]
      rfl
end Go.Proofs.Ytdfkinkihkgdbaa
