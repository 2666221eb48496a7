/- The walks of the reference's Path, of the statements' own helpers, and of the statements UriEncodes, UriDecodes, UriPaths, UriBack. -/
import Derived.Test.YtdfkinkihkgdbaaUriT
set_option linter.unusedVariables false
namespace Go.Proofs.Ytdfkinkihkgdbaa
open Go.RowKit

/-- The reference's end behind both parts. -/
def PathPost2 (fa fb : Int) (x y : List UInt8) (w : World) (e : Ending) (w' : World) : Prop :=
  e = .returned (if (fa ≠ 0 ∨ fb ≠ 0) ∨ (x = [] ∧ y ≠ []) then .tuple #[str [], str [], .int .i64 13] else .tuple #[str x, str y, .int .i64 0]) ∧ Below w.heap.size w w'

set_option maxRecDepth 100000 in
set_option maxHeartbeats 4000000 in
theorem ref_path_core (r a b x y : List UInt8) (q : Bool) (fa fb : Int) (w : World) (hC : Hid (Uri.cut1 47 r = (a, b, q))) (hl : r.length ≤ 100000000) (hal : a.length + b.length ≤ r.length)
    (hA : Hid (decR a = (x, fa))) (hB : Hid (decR b = (y, fb))) :
    Calls Try.prog 18 #[str (47 :: r)] w (PathPost2 fa fb x y w) := by
  obtain ⟨S, hS⟩ : ∃ S : ByteArray, S = ⟨(47 :: r).toArray⟩ := ⟨_, rfl⟩
  have i0 : ∀ W, (Instr.index 9 (.string S) (.int .i64 0)).run Try.prog W = .ok (.int .u8 47) W := fun W => by
    have := idx_str (47 :: r) 0 (by simp) W; rw [← hS] at this; exact this
  have i1 : ∀ W, (Instr.slice 9 (.string S) (some (.int .i64 1)) none none).run Try.prog W = .ok (.string ⟨r.toArray⟩) W := fun W => by
    have hz : (S.size : Int) = r.length + 1 := by rw [hS]; rfl
    rw [run_slice_string_l W _ _ Try.underlying9 _ _ (by omega) (by omega)]
    congr 2
    rw [hS, ext_list]; congr 2
    simp [ByteArray.size]
  have he : S.toList.isEmpty = false := by rw [hS, Lib.toList_data]; rfl
  show Calls _ _ #[.string ⟨(47 :: r).toArray⟩] _ _
  rw [← hS]
  clear hS
  go_enter Try.func18, Try.ntmps18
  go_wp2_with (first
        | (go_at_call 44; refine (ref_first r 47 _ (by omega)).mono ?_; rintro e w' ⟨rfl, nd, rfl⟩; rw [hC.out])
        | (go_at_call_of 16 (str a); refine (ref_Decode a _ (by omega)).mono ?_; rintro e w2 ⟨rfl, hb2⟩; rw [hA.out])
        | (go_at_call_of 16 (str b); refine (ref_Decode b _ (by omega)).mono ?_; rintro e w3 ⟨rfl, hb3⟩; rw [hB.out]))
  all_goals
    go_ret3
    have hbel : Below w.heap.size w w3 := by
      have h1 : Below w.heap.size w w2 := ⟨hb2.os, hb2.tape, hb2.output, hb2.size, hb2.block⟩
      exact h1.trans (hb3.mono hb2.size)
    refine ⟨?_, hbel⟩
    by_cases hn : (fa ≠ 0 ∨ fb ≠ 0) ∨ (x = [] ∧ y ≠ [])
    · rw [if_pos hn]
      first | rfl | (exfalso; simp_all; done)
    · rw [if_neg hn]
      first | rfl | (simp_all; done) | (exfalso; simp_all; done)

set_option maxHeartbeats 4000000 in
theorem ref_path_no (l : List UInt8) (w : World) (h : ∀ r, l ≠ 47 :: r) (hl : l.length ≤ 100000000) :
    Calls Try.prog 18 #[str l] w fun e w' => e = .returned (.tuple #[str [], str [], .int .i64 13]) ∧ Below w.heap.size w w' := by
  match l, h, hl with
  | [], _, _ =>
    go_enter Try.func18, Try.ntmps18
    go_wp2
    go_ret3
    exact ⟨rfl, Below.refl _ _⟩
  | c :: r, h, hl =>
    have hc : c ≠ 47 := fun e => h r (by rw [e])
    have hb : ((c.toNat : Int) != 47) = true := by
      rw [bne_iff_ne]; exact fun e => hc (UInt8.toNat_inj.1 (by simpa using Int.ofNat_inj.1 e))
    obtain ⟨S, hS⟩ : ∃ S : ByteArray, S = ⟨(c :: r).toArray⟩ := ⟨_, rfl⟩
    have i0 : ∀ W, (Instr.index 9 (.string S) (.int .i64 0)).run Try.prog W = .ok (.int .u8 (c.toNat : Int)) W := fun W => by
      have := idx_str (c :: r) 0 (by simp) W; rw [← hS] at this; exact this
    have he : S.toList.isEmpty = false := by rw [hS, Lib.toList_data]; rfl
    show Calls _ _ #[.string ⟨(c :: r).toArray⟩] _ _
    rw [← hS]
    clear hS hc
    go_enter Try.func18, Try.ntmps18
    go_wp2
    go_ret3
    exact ⟨rfl, Below.refl _ _⟩

theorem ref_Path (l : List UInt8) (w : World) (hl : l.length ≤ 100000000) :
    Calls Try.prog 18 #[str l] w fun e w' => e = .returned (.tuple #[str (pathR l).1, str (pathR l).2.1, .int .i64 (pathR l).2.2]) ∧ Below w.heap.size w w' := by
  by_cases hsl : ∃ r, l = 47 :: r
  · obtain ⟨r, rfl⟩ := hsl
    have hP := pathR_slash r
    have hcl := cut1_le 47 r
    simp at hl
    refine (ref_path_core r _ _ _ _ _ (decR (Uri.cut1 47 r).1).2 (decR (Uri.cut1 47 r).2.1).2 w rfl (by omega) hcl rfl rfl).mono ?_
    rintro e w' ⟨rfl, hb⟩
    refine ⟨?_, hb⟩
    rw [hP]
    cases h1 : Uri.dec (Uri.cut1 47 r).1 with
    | none => rw [decR_none h1]; simp
    | some x =>
      rw [decR_some h1]
      cases h2 : Uri.dec (Uri.cut1 47 r).2.1 with
      | none => rw [decR_none h2]; simp
      | some y => rw [decR_some h2]; by_cases hxy : x = [] ∧ y ≠ [] <;> simp [hxy]
  · refine (ref_path_no l w (fun r h => hsl ⟨r, h⟩) hl).mono ?_
    rintro e w' ⟨rfl, hb⟩
    exact ⟨by rw [pathR_else l fun r h => hsl ⟨r, h⟩], hb⟩

/-- How many bytes texts have together. -/
def sumLen (ls : List (List UInt8)) : Nat := (ls.map List.length).sum

theorem sumLen_take (ls : List (List UInt8)) (k : Nat) (h : k < ls.length) : sumLen (ls.take (k + 1)) = sumLen (ls.take k) + (ls.getD k []).length := by
  unfold sumLen
  rw [List.take_succ_eq_append_getElem h, List.map_append, List.sum_append]
  rw [show ls.getD k [] = ls[k] by simp [List.getD_eq_getElem?_getD, List.getElem?_eq_getElem h]]
  rfl

theorem sumLen_le (ls : List (List UInt8)) (k : Nat) : sumLen (ls.take k) ≤ sumLen ls := by
  unfold sumLen
  conv => rhs; rw [← List.take_append_drop k ls, List.map_append, List.sum_append]
  omega

set_option maxHeartbeats 1000000 in
theorem law_light (ls : List (List UInt8)) (ad : Addr) (c : Nat) (w : World) (hl : ls.length ≤ 1000000000) (hs : sumLen ls ≤ 4611686018427387904) (hc : ∀ i, i < ls.length → w.cell? (ad.add i) = some (str (ls.getD i []))) :
    Calls Try.prog 11 #[.slice (some ad) ls.length c] w fun e w' => e = .returned (.bool (decide (sumLen ls ≤ 20000))) ∧ w = w' := by
  have hO : ∀ k, k < ls.length → Hid (sumLen (ls.take (k + 1)) = sumLen (ls.take k) + (ls.getD k []).length) := fun k h => sumLen_take ls k h
  have hE : Hid (sumLen (ls.take ls.length) = sumLen ls) := by show _ = _; rw [List.take_length]
  have hle : ∀ k, sumLen (ls.take k) ≤ sumLen ls := sumLen_le ls
  have hz : ∀ x : List UInt8, (⟨x.toArray⟩ : ByteArray).size = x.length := fun _ => rfl
  obtain ⟨n, hn⟩ : ∃ n, n = ls.length := ⟨_, rfl⟩
  rw [← hn] at hl hc hO hE ⊢
  clear hn
  obtain ⟨f, hf⟩ : ∃ f : Nat → List UInt8, ∀ i, ls.getD i [] = f i := ⟨_, fun _ => rfl⟩
  simp only [hf] at hc hO
  clear hf
  have h0 : Hid (sumLen (ls.take 0) = 0) := rfl
  generalize sumLen ls = N at *
  obtain ⟨g, hg⟩ : ∃ g : Nat → Nat, ∀ i, sumLen (ls.take i) = g i := ⟨_, fun _ => rfl⟩
  simp only [hg] at hO hE hle h0
  clear hg
  go_enter Try.func11, Try.ntmps11
  go_wp2
  go_loop [3, 4] (fun m i => ∃ k : Nat, k ≤ n ∧ i = .int .i64 k ∧ m = .int .i64 (g k)) (fun _ i => n - (intOf i).toNat)
  case atStart => exact ⟨0, Nat.zero_le _, rfl, by rw [h0.out]; rfl⟩
  case round =>
    obtain ⟨k, hk, rfl, rfl⟩ := hrel
    by_cases hlt : k < n
    · have hck := hc k hlt
      have hok := hO k hlt
      have hlk := hle (k + 1)
      have hlk2 : g k + (f k).length ≤ N := by rw [← hok.out]; exact hlk
      clear hc hO hle hE h0
      generalize f k = x at *
      go_wp2
      go_round
      case rel => exact ⟨k + 1, by omega, by go_num, by rw [hok.out]; first | rfl | (push_cast; rfl)⟩
      case measure => simp [intOf]; omega
    · have hkn : Hid (k = n) := by show _ = _; omega
      clear hc hO hle
      go_wp2
      go_ret
      refine ⟨ret_bool ?_, rfl⟩
      have h1 : g k = N := by rw [hkn.out]; exact hE.out
      rw [← h1]
      show decide ((g k : Int) ≤ 20000) = _
      rw [decide_eq_decide]; omega
end Go.Proofs.Ytdfkinkihkgdbaa
