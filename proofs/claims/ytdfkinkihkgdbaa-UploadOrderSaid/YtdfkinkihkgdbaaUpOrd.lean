/- The walk of UploadOrder: what holds in its rounds. -/
import Derived.Test.YtdfkinkihkgdbaaUpPure
namespace Go.Proofs.Ytdfkinkihkgdbaa.PUp
open Go.RowKit Go.Shelf Go.Proofs.YtdfkinkihkgdbaaW.PrintWords Go.Proofs.YtdfkinkihkgdbaaW.PrintLast Go.Proofs.YtdfkinkihkgdbaaW.PrintMore
set_option linter.unusedVariables false

abbrev kKey : ByteArray := ⟨#[107]⟩
def oP (n : Int) : Option (List Int) → List S50
  | none => []
  | some x => [⟨n, x⟩]
/-- The parts that are there. -/
def PP (d : Nat → Option (List Int)) : List S50 := oP 1 (d 1) ++ (oP 2 (d 2) ++ (oP 3 (d 3) ++ oP 4 (d 4)))
def upd {α : Type} (f : Nat → α) (n : Nat) (x : α) : Nat → α := fun m => if m = n then x else f m
def rr (n : Nat) (d1 d2 d3 : Option (List Int)) : Nat := (if 1 < n then (oP 1 d1).length else 0) + ((if 2 < n then (oP 2 d2).length else 0) + (if 3 < n then (oP 3 d3).length else 0))
def bb (n : Nat) (d1 d2 d3 d4 : Option (List Int)) : Bool := if n = 1 then d1.isSome else if n = 2 then d2.isSome else if n = 3 then d3.isSome else d4.isSome
def Q4 (d1 d2 d3 d4 : Option (List Int)) : List S50 := oP 1 d1 ++ (oP 2 d2 ++ (oP 3 d3 ++ oP 4 d4))
theorem at_Q4 (d1 d2 d3 d4 : Option (List Int)) (n : Nat) (h1 : 1 ≤ n) (h4 : n ≤ 4) (x : List Int) :
    upload_at.b 9 (Q4 d1 d2 d3 d4) (n : Int) 0 ((Q4 d1 d2 d3 d4).length : Int) = some (((rr n d1 d2 d3 : Nat) : Int), bb n d1 d2 d3 d4) ∧
    (if bb n d1 d2 d3 d4 = true then (Q4 d1 d2 d3 d4).set (rr n d1 d2 d3) ⟨(n : Int), x⟩ else (Q4 d1 d2 d3 d4).take (rr n d1 d2 d3) ++ ⟨(n : Int), x⟩ :: (Q4 d1 d2 d3 d4).drop (rr n d1 d2 d3)) =
      Q4 (if 1 = n then some x else d1) (if 2 = n then some x else d2) (if 3 = n then some x else d3) (if 4 = n then some x else d4) := by
  obtain rfl | rfl | rfl | rfl : n = 1 ∨ n = 2 ∨ n = 3 ∨ n = 4 := by omega
  all_goals (cases d1 <;> cases d2 <;> cases d3 <;> cases d4)
  all_goals exact ⟨by kernel_rfl, by kernel_rfl⟩
theorem PP_Q4 (d : Nat → Option (List Int)) : PP d = Q4 (d 1) (d 2) (d 3) (d 4) := rfl
theorem PP_upd (d : Nat → Option (List Int)) (n : Nat) (x : List Int) : PP (upd d n (some x)) = Q4 (if 1 = n then some x else d 1) (if 2 = n then some x else d 2) (if 3 = n then some x else d 3) (if 4 = n then some x else d 4) := rfl
theorem PP_len (d : Nat → Option (List Int)) : (PP d).length ≤ 4 := by
  rw [PP_Q4]
  cases d 1 <;> cases d 2 <;> cases d 3 <;> cases d 4 <;> simp [Q4, oP]
/-- Which data are there: each short. -/
def Short (d : Nat → Option (List Int)) : Prop := ∀ n x, d n = some x → x.length ≤ 1536
theorem PP_lim {d : Nat → Option (List Int)} (h : Short d) : upload_Put.lim (PP d) = true := by
  unfold upload_Put.lim
  have hl := PP_len d
  simp only [Bool.and_eq_true, decide_eq_true_eq, List.all_eq_true]
  refine ⟨by omega, fun x hx => ?_⟩
  have mem : ∀ n : Int, ∀ m : Nat, x ∈ oP n (d m) → x.f1.length < 3000000000000 := fun n m hm => by
    cases hd : d m with
    | none => rw [hd] at hm; simp [oP] at hm
    | some y =>
      rw [hd] at hm
      have := h m y hd
      simp only [oP, List.mem_singleton] at hm
      rw [hm]
      show y.length < _
      omega
  rw [PP_Q4] at hx
  unfold Q4 at hx
  simp only [List.mem_append] at hx
  rcases hx with hx | hx | hx | hx
  · exact mem 1 1 hx
  · exact mem 2 2 hx
  · exact mem 3 3 hx
  · exact mem 4 4 hx
theorem put_PP {d : Nat → Option (List Int)} (h : Short d) (n : Nat) (h1 : 1 ≤ n) (h4 : n ≤ 4) (x : List Int) (hx : x.length ≤ 1536) :
    upload_Put.f 9 alive_e kKey 0 0 (PP d) (n : Int) x = some (alive_e, kKey, 0, 0, PP (upd d n (some x)), 0) := by
  unfold upload_Put.f
  have hl := PP_len d
  rw [if_neg (by omega), if_neg (by omega), if_neg (by omega), if_pos (PP_lim h)]
  obtain ⟨e1, e2⟩ := at_Q4 (d 1) (d 2) (d 3) (d 4) n h1 h4 x
  unfold upload_at.f
  rw [if_pos (by omega), PP_Q4, e1, Option.bind_some]
  simp only [Int.toNat_natCast]
  rw [e2, PP_upd]
theorem put_no (d : Nat → Option (List Int)) (t : Int) (x : List Int) (h : ¬ (1 ≤ t ∧ t ≤ 4 ∧ x.length ≤ 1536)) :
    ∃ c, c ≠ 0 ∧ upload_Put.f 9 alive_e kKey 0 0 (PP d) t x = some ((⟨#[]⟩ : ByteArray), (⟨#[]⟩ : ByteArray), 0, 0, ([] : List S50), c) := by
  unfold upload_Put.f
  by_cases c1 : t < 1
  · exact ⟨42, by decide, by rw [if_pos c1]⟩
  by_cases c2 : t > 4
  · exact ⟨42, by decide, by rw [if_neg c1, if_pos c2]⟩
  · exact ⟨3, by decide, by rw [if_neg c1, if_neg c2, if_pos (by omega)]⟩
/-- The numbers that are there, and their bytes. -/
def oN (n : Int) : Option (List Int) → List Int
  | none => []
  | some _ => [n]
def oD : Option (List Int) → List (List Int)
  | none => []
  | some x => [x]
def NN4 (d1 d2 d3 d4 : Option (List Int)) : List Int := oN 1 d1 ++ (oN 2 d2 ++ (oN 3 d3 ++ oN 4 d4))
def DD4 (d1 d2 d3 d4 : Option (List Int)) : List (List Int) := oD d1 ++ (oD d2 ++ (oD d3 ++ oD d4))
theorem join_Q4 (d1 d2 d3 d4 : Option (List Int)) : upload_Join.f 20 alive_e kKey 0 0 (Q4 d1 d2 d3 d4) (NN4 d1 d2 d3 d4) = if (NN4 d1 d2 d3 d4).length = 0 then some ([], 42) else (slices_Concat_byte_byte.f (DD4 d1 d2 d3 d4)).bind fun t => some (t, 0) := by
  cases d1 <;> cases d2 <;> cases d3 <;> cases d4
  all_goals kernel_rfl
theorem len_Q4 (d1 d2 d3 d4 : Option (List Int)) : (Q4 d1 d2 d3 d4).length = (NN4 d1 d2 d3 d4).length := by
  cases d1 <;> cases d2 <;> cases d3 <;> cases d4 <;> rfl
theorem tot_Q4 (d1 d2 d3 d4 : Option (List Int)) : tot (Q4 d1 d2 d3 d4) (Q4 d1 d2 d3 d4).length = (DD4 d1 d2 d3 d4).flatten.length := by
  cases d1 <;> cases d2 <;> cases d3 <;> cases d4 <;> simp [Q4, DD4, oP, oD, tot, pD]
end Go.Proofs.Ytdfkinkihkgdbaa.PUp
