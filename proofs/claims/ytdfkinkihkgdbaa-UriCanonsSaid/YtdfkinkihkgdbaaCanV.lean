/- The walk of the statement UriCanons. -/
import Derived.Test.YtdfkinkihkgdbaaCanC
import Derived.Test.YtdfkinkihkgdbaaUriV
import Derived.Deep.RegionHeld3
set_option linter.unusedVariables false
namespace Go.Proofs.Ytdfkinkihkgdbaa
open Go.RowKit

set_option maxHeartbeats 4000000 in
/-- More than fifty pairs. -/
theorem law_UriCanons_many (n : Nat) (A : Option Addr) (c : Nat) (w : World) (h : 50 < n) :
    Calls Try.prog 10 #[.slice A n c] w fun e w' => e = .returned (.bool true) ∧ Below w.heap.size w w' := by
  go_enter Try.func10, Try.ntmps10
  go_wp2_with (go_at_call 14; refine (law_alive _).mono ?_; rintro e w4 ⟨rfl, hb4⟩)
  go_ret
  exact ⟨rfl, hb4⟩

set_option maxRecDepth 100000 in
set_option maxHeartbeats 4000000 in
theorem law_UriCanons_few (ps : List Uri.Pr) (A : Option Addr) (c : Nat) (w : World) (hr : PRow w A ps) (hl : ps.length ≤ 50) (hs : ∀ k, k < ps.length → (ps.getD k ([], [])).1.length + (ps.getD k ([], [])).2.length ≤ 4611686018427387904) :
    Calls Try.prog 10 #[.slice A ps.length c] w fun e w' => e = .returned (.bool true) ∧ Below w.heap.size w w' := by
  have hr0 := hr
  obtain ⟨n, hn⟩ : ∃ n, n = ps.length := ⟨_, rfl⟩
  unfold PRow at hr
  rw [← hn] at hr hl hs ⊢
  have HN := Lib.hid hn
  clear hn
  go_enter Try.func10, Try.ntmps10
  go_wp2
  go_loopw [3] (fun i wr => ∃ k : Nat, k ≤ n ∧ i = .int .i64 k ∧ (∀ j, j < k → (ps.getD j ([], [])).1.length + (ps.getD j ([], [])).2.length ≤ 20000) ∧ Fr (fun k => w.heap.size ≤ k) w wr) (fun i _ => n - (intOf i).toNat)
  case atStart => exact ⟨0, Nat.zero_le _, rfl, fun j h => by omega, Fr.refl _ _⟩
  case round =>
    obtain ⟨k, hk, rfl, hlt0, hfr⟩ := hrel
    by_cases hlt : k < n
    · obtain ⟨g, o, rfl, hg, hc⟩ := hr (by omega)
      obtain ⟨c1, c2⟩ := hc k hlt
      have hsk := hs k hlt
      have d1 := hfr.cell c1 (by show ¬ w.heap.size ≤ g; omega)
      have d2 := hfr.cell c2 (by show ¬ w.heap.size ≤ g; omega)
      have hlast : (ps.getD k ([], [])).1.length + (ps.getD k ([], [])).2.length ≤ 20000 → ∀ j, j < k + 1 → (ps.getD j ([], [])).1.length + (ps.getD j ([], [])).2.length ≤ 20000 := fun h j hj => by
        by_cases hjk : j = k
        · rw [hjk]; exact h
        · exact hlt0 j (by omega)
      clear hc hr c1 c2 hs hr0 hlt0
      generalize ps.getD k ([], []) = p at *
      obtain ⟨x, y⟩ := p
      simp only at hsk d1 d2 hlast
      have hli := law_light [x, y] ⟨wr.heap.size, 0, none⟩ 2 (wr.alloc (.cells #[str x, str y] 9)).drew (by simp) (by simpa [sumLen] using hsk) fun i hi => by
        match i, hi with
        | 0, _ => simp [Addr.add]
        | 1, _ => simp [Addr.add]
      have hfa : Fr (fun k => w.heap.size ≤ k) w (wr.alloc (.cells #[str x, str y] 9)).drew := (hfr.alloc _).drew
      have a1 : (wr.alloc (.cells #[str x, str y] 9)).cell? ⟨g, o + k * 2, none⟩ = some (str x) := ((Fr.refl (fun _ => False) wr).alloc _).cell d1 (fun h => h)
      have a2 : (wr.alloc (.cells #[str x, str y] 9)).cell? ⟨g, o + k * 2 + 1, none⟩ = some (str y) := ((Fr.refl (fun _ => False) wr).alloc _).cell d2 (fun h => h)
      have hsu : sumLen [x, y] = x.length + y.length := by simp [sumLen]
      rw [hsu] at hli
      obtain ⟨q, hq⟩ : ∃ q, decide (x.length + y.length ≤ 20000) = q := ⟨_, rfl⟩
      rw [hq] at hli
      go_wp2
      go_region_held3 (fun w' => w'.cell? ⟨g, o + k * 2, none⟩ = some (str x) ∧ w'.cell? ⟨g, o + k * 2 + 1, none⟩ = some (str y)) (go_keep)
        (first | (go_at_call 11; refine hli.mono ?_; rintro e w1 ⟨rfl, rfl⟩))
      all_goals
        cases q
        · have hal := law_alive (wr.alloc (.cells #[str x, str y] 9)).drew
          go_wp2_with (go_at_call 14; refine hal.mono ?_; rintro e w4 ⟨rfl, hb4⟩)
          go_ret
          exact ⟨rfl, (hfa.below (Nat.le_refl _) fun q hq => by omega).trans (hb4.mono hfa.size)⟩
        · have hq2 := of_decide_eq_true hq
          go_wp2
          go_roundw
          case rel => exact ⟨k + 1, by omega, by go_num, hlast hq2, hfa⟩
          case measure => simp [intOf]; omega
    · have hkn : k = n := by omega
      have hs2 : ∀ j, j < ps.length → (ps.getD j ([], [])).1.length + (ps.getD j ([], [])).2.length ≤ 100000 := fun j hj => Nat.le_trans (hlt0 j (by rw [hkn, HN.out]; exact hj)) (by decide)
      have hpr := hr0.fr hfr fun q hq h => by omega
      have hl2 : ps.length ≤ 50 := by rw [← HN.out]; exact hl
      have ho := law_own ps A c wr hpr (by omega)
      have hR := fun W (hF : Fr (fun q => w.heap.size ≤ q) w W) => ref_Canon ps A c W (hr0.fr hF fun q hq h => by omega) (by omega) hs2
      have hU := fun A2 c2 W hp => uri_Canon ps A2 c2 W hp (by omega) hs2
      rw [← HN.out] at ho hR hU
      subst hkn
      clear hr hs hlt0 hs2 hpr
      generalize Uri.canon ps = C at *
      go_wp2_with (first
        | (go_at_call 32; refine ho.mono ?_; rintro e w2 ⟨v2, rfl, hrow2, hf2⟩; obtain ⟨A2, c2, rfl, hc2, hp2⟩ := PVal.of_own (by rw [HN.out] at hrow2; exact hrow2); rw [← HN.out]; have hF2 := hfr.then_ hf2 (fun q hq h => by have := hfr.size; omega))
        | (go_at_call 31; refine (hU A2 c2 _ hp2).mono ?_; rintro e w3 ⟨rfl, hb3⟩; have hF3 := hF2.then_ (Fr.of_below0 hb3) (fun _ _ h => h.elim))
        | (go_at_call 33; refine (hR _ hF3).mono ?_; rintro e w5 ⟨rfl, hb5⟩; have hF5 := hF3.then_ (Fr.of_below0 hb5) (fun _ _ h => h.elim))
        | (go_at_call 14; refine (law_alive _).mono ?_; rintro e w6 ⟨rfl, hb6⟩))
      go_ret
      exact ⟨rfl, (hF5.below (Nat.le_refl _) fun q hq => by omega).trans (hb6.mono hF5.size)⟩
end Go.Proofs.Ytdfkinkihkgdbaa
