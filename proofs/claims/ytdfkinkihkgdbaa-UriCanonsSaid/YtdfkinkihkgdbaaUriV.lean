/- The walks of the statements UriEncodes, UriDecodes, UriPaths, UriBack. -/
import Derived.Test.YtdfkinkihkgdbaaUriU
set_option linter.unusedVariables false
namespace Go.Proofs.Ytdfkinkihkgdbaa
open Go.RowKit

theorem light1 (l : List UInt8) (w : World) (hl : l.length ≤ 4611686018427387904) :
    Calls Try.prog 11 #[.slice (some ⟨w.heap.size, 0, none⟩) 1 1] (w.alloc (.cells #[str l] 9)) fun e w' => e = .returned (.bool (decide (l.length ≤ 20000))) ∧ w.alloc (.cells #[str l] 9) = w' :=
  (law_light [l] _ _ _ (by simp) (by simpa [sumLen] using hl) fun i hi => by
    match i, hi with
    | 0, _ => simp [Addr.add]).mono fun e w' ⟨h1, h2⟩ => ⟨by rw [h1]; simp [sumLen], h2⟩

theorem light2 (l m : List UInt8) (w : World) (hl : l.length + m.length ≤ 4611686018427387904) :
    Calls Try.prog 11 #[.slice (some ⟨w.heap.size, 0, none⟩) 2 2] (w.alloc (.cells #[str l, str m] 9)) fun e w' => e = .returned (.bool (decide (l.length + m.length ≤ 20000))) ∧ w.alloc (.cells #[str l, str m] 9) = w' :=
  (law_light [l, m] _ _ _ (by simp) (by simpa [sumLen] using hl) fun i hi => by
    match i, hi with
    | 0, _ => simp [Addr.add]
    | 1, _ => simp [Addr.add]).mono fun e w' ⟨h1, h2⟩ => ⟨by rw [h1]; simp [sumLen], h2⟩

theorem alive_enc : Uri.enc true [97, 32, 98, 47, 195, 169] = [97, 37, 50, 48, 98, 47, 37, 67, 51, 37, 65, 57] := by decide +kernel
theorem alive_path : pathR [47, 98, 47, 107, 47, 108] = ([98], [107, 47, 108], 0) := by decide +kernel

set_option maxHeartbeats 1000000 in
theorem law_alive (w : World) : Calls Try.prog 14 #[] w fun e w' => e = .returned (.bool true) ∧ Below w.heap.size w w' := by
  go_enter Try.func14, Try.ntmps14
  go_wp2_with (first
    | (go_at_call 17; refine (uri_Path [47, 98, 47, 107, 47, 108] _ (by decide)).mono ?_; rw [alive_path]; rintro e w2 ⟨rfl, hb2⟩)
    | (go_at_call 12; refine (uri_Encode [97, 32, 98, 47, 195, 169] true _ (by decide)).mono ?_; rw [alive_enc]; rintro e w3 ⟨rfl, hb3⟩))
  go_ret
  exact ⟨rfl, hb2.trans (hb3.mono hb2.size)⟩

set_option maxHeartbeats 1000000 in
theorem law_UriEncodes (l : List UInt8) (s : Bool) (w : World) (hl : l.length ≤ 4611686018427387904) :
    Calls Try.prog 3 #[str l, .bool s] w fun e w' => e = .returned (.bool true) ∧ Below w.heap.size w w' := by
  by_cases h : l.length ≤ 20000
  · have hd := decide_eq_true h
    go_enter Try.func3, Try.ntmps3
    go_wp2_with (first
      | (go_at_call 11; refine (light1 l w hl).mono ?_; rw [hd]; rintro e w1 ⟨rfl, rfl⟩)
      | (go_at_call 12; refine (uri_Encode l s _ (by omega)).mono ?_; rintro e w2 ⟨rfl, hb2⟩)
      | (go_at_call 13; refine (ref_Encode l s _ (by omega)).mono ?_; rintro e w3 ⟨rfl, hb3⟩)
      | (go_at_call 14; refine (law_alive _).mono ?_; rintro e w4 ⟨rfl, hb4⟩))
    go_ret
    refine ⟨rfl, ?_⟩
    have h1 : Below w.heap.size w w2 := ((Below.refl _ w).alloc (Nat.le_refl _) _).trans (hb2.mono (by simp))
    have h2 := h1.trans (hb3.mono h1.size)
    exact h2.trans (hb4.mono h2.size)
  · have hd := decide_eq_false h
    go_enter Try.func3, Try.ntmps3
    go_wp2_with (go_at_call 11; refine (light1 l w hl).mono ?_; rw [hd]; rintro e w1 ⟨rfl, rfl⟩)
    go_ret
    exact ⟨rfl, (Below.refl _ w).alloc (Nat.le_refl _) _⟩

/-- Three calls behind a first block of the call's own. -/
theorem below3 {w w2 w3 w4 : World} {o : Obj} (hb2 : Below (w.alloc o).heap.size (w.alloc o) w2) (hb3 : Below w2.heap.size w2 w3) (hb4 : Below w3.heap.size w3 w4) : Below w.heap.size w w4 := by
  have h1 : Below w.heap.size w w2 := ((Below.refl _ w).alloc (Nat.le_refl _) _).trans (hb2.mono (by simp))
  have h2 := h1.trans (hb3.mono h1.size)
  exact h2.trans (hb4.mono h2.size)

set_option maxHeartbeats 1000000 in
theorem law_UriDecodes (l : List UInt8) (w : World) (hl : l.length ≤ 4611686018427387904) :
    Calls Try.prog 4 #[str l] w fun e w' => e = .returned (.bool true) ∧ Below w.heap.size w w' := by
  by_cases h : l.length ≤ 20000
  · have hd := decide_eq_true h
    obtain ⟨x, n, hx⟩ : ∃ x n, decR l = (x, n) := ⟨_, _, rfl⟩
    have HX := Lib.hid hx
    clear hx
    go_enter Try.func4, Try.ntmps4
    go_wp2_with (first
      | (go_at_call 11; refine (light1 l w hl).mono ?_; rw [hd]; rintro e w1 ⟨rfl, rfl⟩)
      | (go_at_call 15; refine (uri_Decode l _ (by omega)).mono ?_; rw [HX.out]; rintro e w2 ⟨rfl, hb2⟩)
      | (go_at_call 16; refine (ref_Decode l _ (by omega)).mono ?_; rw [HX.out]; rintro e w3 ⟨rfl, hb3⟩)
      | (go_at_call 14; refine (law_alive _).mono ?_; rintro e w4 ⟨rfl, hb4⟩))
    go_ret
    exact ⟨rfl, below3 hb2 hb3 hb4⟩
  · have hd := decide_eq_false h
    go_enter Try.func4, Try.ntmps4
    go_wp2_with (first
      | (go_at_call 11; refine (light1 l w hl).mono ?_; rw [hd]; rintro e w1 ⟨rfl, rfl⟩)
      | (go_at_call 14; refine (law_alive _).mono ?_; rintro e w4 ⟨rfl, hb4⟩))
    go_ret
    exact ⟨rfl, below3 hb4 (Below.refl _ _) (Below.refl _ _)⟩

set_option maxHeartbeats 1000000 in
theorem law_UriPaths (l : List UInt8) (w : World) (hl : l.length ≤ 4611686018427387904) :
    Calls Try.prog 5 #[str l] w fun e w' => e = .returned (.bool true) ∧ Below w.heap.size w w' := by
  by_cases h : l.length ≤ 20000
  · have hd := decide_eq_true h
    obtain ⟨x, y, n, hx⟩ : ∃ x y n, pathR l = (x, y, n) := ⟨_, _, _, rfl⟩
    have HX := Lib.hid hx
    clear hx
    go_enter Try.func5, Try.ntmps5
    go_wp2_with (first
      | (go_at_call 11; refine (light1 l w hl).mono ?_; rw [hd]; rintro e w1 ⟨rfl, rfl⟩)
      | (go_at_call 17; refine (uri_Path l _ (by omega)).mono ?_; rw [HX.out]; rintro e w2 ⟨rfl, hb2⟩)
      | (go_at_call 18; refine (ref_Path l _ (by omega)).mono ?_; rw [HX.out]; rintro e w3 ⟨rfl, hb3⟩)
      | (go_at_call 14; refine (law_alive _).mono ?_; rintro e w4 ⟨rfl, hb4⟩))
    go_ret
    exact ⟨rfl, below3 hb2 hb3 hb4⟩
  · have hd := decide_eq_false h
    go_enter Try.func5, Try.ntmps5
    go_wp2_with (first
      | (go_at_call 11; refine (light1 l w hl).mono ?_; rw [hd]; rintro e w1 ⟨rfl, rfl⟩)
      | (go_at_call 14; refine (law_alive _).mono ?_; rintro e w4 ⟨rfl, hb4⟩))
    go_ret
    exact ⟨rfl, below3 hb4 (Below.refl _ _) (Below.refl _ _)⟩

theorem decR_enc (s : Bool) (l : List UInt8) : decR (Uri.enc s l) = (l, 0) := decR_some (Uri.dec_enc s l)

set_option maxHeartbeats 2000000 in
theorem law_UriBack (l m : List UInt8) (s : Bool) (w : World) (hl : l.length + m.length ≤ 4611686018427387904) :
    Calls Try.prog 6 #[str l, str m, .bool s] w fun e w' => e = .returned (.bool true) ∧ Below w.heap.size w w' := by
  by_cases h : l.length + m.length ≤ 20000
  · have hd := decide_eq_true h
    have hle := enc_le s l
    have HX := Lib.hid (decR_enc s l)
    have hinj : Hid (Uri.enc s m = Uri.enc s l ↔ l = m) := ⟨fun e => (Uri.enc_inj s e).symm, fun e => by rw [e]⟩
    generalize hx : Uri.enc s l = x at *
    generalize hy : Uri.enc s m = y at *
    have Hx := Lib.hid hx
    have Hy := Lib.hid hy
    have heq : (y == x) = (l == m) := by rw [Bool.eq_iff_iff]; simpa using hinj.out
    clear hx hy
    go_enter Try.func6, Try.ntmps6
    go_wp2_with (first
      | (go_at_call 11; refine (light2 l m w hl).mono ?_; rw [hd]; rintro e w1 ⟨rfl, rfl⟩)
      | (go_at_call_of 12 (str l); refine (uri_Encode l s _ (by omega)).mono ?_; rw [Hx.out]; rintro e w2 ⟨rfl, hb2⟩)
      | (go_at_call_of 12 (str m); refine (uri_Encode m s _ (by omega)).mono ?_; rw [Hy.out]; rintro e w4 ⟨rfl, hb4⟩)
      | (go_at_call 15; refine (uri_Decode x _ (by omega)).mono ?_; rw [HX.out]; rintro e w3 ⟨rfl, hb3⟩)
      | (go_at_call 14; refine (law_alive _).mono ?_; rintro e w5 ⟨rfl, hb5⟩))
    go_ret
    exact ⟨rfl, (below3 hb2 hb3 hb4).trans (hb5.mono (below3 hb2 hb3 hb4).size)⟩
  · have hd := decide_eq_false h
    go_enter Try.func6, Try.ntmps6
    go_wp2_with (first
      | (go_at_call 11; refine (light2 l m w hl).mono ?_; rw [hd]; rintro e w1 ⟨rfl, rfl⟩)
      | (go_at_call 14; refine (law_alive _).mono ?_; rintro e w4 ⟨rfl, hb4⟩))
    go_ret
    exact ⟨rfl, below3 hb4 (Below.refl _ _) (Below.refl _ _)⟩
end Go.Proofs.Ytdfkinkihkgdbaa
