/- The walks of Canon and of what the statement makes of its argument. -/
import Derived.Test.YtdfkinkihkgdbaaDoorCanA
import Derived.Test.YtdfkinkihkgdbaaDoorOwn
import Derived.Deep.RegionHeld3
set_option linter.unusedVariables false
namespace Go.Proofs.YtdfkinkihkgdbaaDoor
open Go.RowKit

theorem pairInfo : (Tryd.prog.info? 37).map (fun i => (i.zero, i.size, i.bytes)) = some (some (.agg #[.string ByteArray.empty, .string ByteArray.empty]), 2, 32) := by kernel_rfl
theorem textInfo : (Tryd.prog.info? 9).map (fun i => (i.zero, i.size, i.bytes)) = some (some (.string ByteArray.empty), 1, 16) := by kernel_rfl

theorem take_pcs (ps : List Uri.Pr) (f : Uri.Pr → Uri.Pr) (k : Nat) (h : k < ps.length) : (ps.take (k + 1)).map f = (ps.take k).map f ++ [f (ps.getD k ([], []))] := by
  rw [List.take_succ_eq_append_getElem h, List.map_append]
  simp [List.getD_eq_getElem?_getD, List.getElem?_eq_getElem h]

theorem sum_bound (l : List (List UInt8)) (B : Nat) (h : ∀ x ∈ l, x.length ≤ B) : (l.map List.length).sum ≤ l.length * B := by
  induction l with
  | nil => simp
  | cons x t ih =>
    have h1 := h x (by simp)
    have h2 := ih fun y hy => h y (by simp [hy])
    simp only [List.map_cons, List.sum_cons, List.length_cons, Nat.add_mul, Nat.one_mul]
    omega

theorem piece_bytes (x y : List UInt8) : ((⟨x.toArray⟩ : ByteArray) ++ ⟨#[61]⟩ ++ ⟨y.toArray⟩) = ⟨(Uri.piece (x, y)).toArray⟩ := by
  rw [ByteArray.mk_append_mk, ByteArray.mk_append_mk]
  simp [Uri.piece]

theorem enc2_len (p : Uri.Pr) (h : p.1.length + p.2.length ≤ 100000) : (Uri.enc2 p).1.length + (Uri.enc2 p).2.length ≤ 300000 := by
  have h1 := enc_le false p.1
  have h2 := enc_le false p.2
  unfold Uri.enc2; simp only; omega

set_option maxRecDepth 100000 in
set_option maxHeartbeats 4000000 in
theorem uri_Canon (ps : List Uri.Pr) (A : Option Addr) (c : Nat) (w : World) (hr : PRow w A ps) (hl : ps.length ≤ 1000) (hs : ∀ k, k < ps.length → (ps.getD k ([], [])).1.length + (ps.getD k ([], [])).2.length ≤ 100000) :
    Calls Tryd.prog 12 #[.slice A ps.length c] w fun e w' => e = .returned (str (Uri.canon ps)) ∧ Below w.heap.size w w' := by
  have hT : ∀ k, k < ps.length → Hid ((ps.take (k + 1)).map Uri.enc2 = (ps.take k).map Uri.enc2 ++ [Uri.enc2 (ps.getD k ([], []))]) := fun k h => take_pcs ps Uri.enc2 k h
  have hE : Hid ((ps.take ps.length).map Uri.enc2 = ps.map Uri.enc2) := by show _ = _; rw [List.take_length]
  have hown : w.ownsRow w.heap.size 37 2 (.slice none 0 0) 0 (pcs ((ps.take 0).map Uri.enc2)) := World.ownsRow_nil _ _ _ _
  have hlm : (ps.map Uri.enc2).length = ps.length := by simp
  have hcan : Hid (Uri.canon ps = Uri.jn [38] ((Uri.sorted (ps.map Uri.enc2)).map Uri.piece)) := rfl
  have hsl := Uri.sorted_length (ps.map Uri.enc2)
  have hmem : ∀ k, k < ps.length → ((Uri.sorted (ps.map Uri.enc2)).getD k ([], [])).1.length + ((Uri.sorted (ps.map Uri.enc2)).getD k ([], [])).2.length ≤ 300000 := fun k hk => by
    have hk2 : k < (Uri.sorted (ps.map Uri.enc2)).length := by omega
    have hm : (Uri.sorted (ps.map Uri.enc2))[k] ∈ ps.map Uri.enc2 := (Uri.sorted_perm _).mem_iff.1 (List.getElem_mem hk2)
    obtain ⟨p, hp, he⟩ := List.mem_map.1 hm
    obtain ⟨i, hi, rfl⟩ := List.getElem_of_mem hp
    have h2 := enc2_len ps[i] (by have := hs i hi; simpa [List.getD_eq_getElem?_getD, List.getElem?_eq_getElem hi] using this)
    rw [he] at h2
    simpa [List.getD_eq_getElem?_getD, List.getElem?_eq_getElem hk2] using h2
  obtain ⟨n, hn⟩ : ∃ n, n = ps.length := ⟨_, rfl⟩
  unfold PRow at hr
  rw [← hn] at hr hl hT hE hs hlm hmem ⊢
  clear hn
  rw [hlm] at hsl
  go_enter Tryd.func12, Tryd.ntmps12
  go_wp2
  go_loopw [3, 11] (fun v i wr => ∃ k : Nat, k ≤ n ∧ i = .int .i64 k ∧ wr.ownsRow w.heap.size 37 2 v k (pcs ((ps.take k).map Uri.enc2)) ∧ Fr (fun k => w.heap.size ≤ k) w wr) (fun _ i _ => n - (intOf i).toNat)
  case atStart => exact ⟨0, Nat.zero_le _, rfl, hown, Fr.refl _ _⟩
  case round =>
    obtain ⟨k, hk, rfl, hrow, hfr⟩ := hrel
    clear hown
    by_cases hlt : k < n
    · obtain ⟨g, o, rfl, hg, hc⟩ := hr (by omega)
      have hTk := hT k hlt
      have hsk := hs k hlt
      obtain ⟨c1, c2⟩ := hc k hlt
      have d1 := hfr.cell c1 (by show ¬ w.heap.size ≤ g; omega)
      have d2 := hfr.cell c2 (by show ¬ w.heap.size ≤ g; omega)
      clear hc hr hT hE c1 c2 hs hmem hcan hsl hlm
      generalize ps.getD k ([], []) = p at *
      generalize (ps.take k).map Uri.enc2 = acc at *
      obtain ⟨x, y⟩ := p
      simp only at hsk d1 d2
      have hex := enc_le false x
      have hey := enc_le false y
      have hX : Hid (Uri.enc2 (x, y) = (Uri.enc false x, Uri.enc false y)) := rfl
      rw [hX.out] at hTk
      clear hX
      have hc1 := uri_Encode x false
      have hc2 := uri_Encode y false
      generalize Uri.enc false x = ex at *
      generalize Uri.enc false y = ey at *
      have h1c := encP_cell (ex, ey)
      go_wp2
      have hb1 : w.heap.size ≤ wr.heap.size := hfr.size
      have b1 : (wr.alloc (.cells #[.string ⟨x.toArray⟩, .string ⟨y.toArray⟩] 37)).cell? ⟨wr.heap.size, 0, none⟩ = some (str x) := by simp
      have b2 : (wr.alloc (.cells #[.string ⟨x.toArray⟩, .string ⟨y.toArray⟩] 37)).cell? ⟨wr.heap.size, 1, none⟩ = some (str y) := by simp
      have bf : Fr (fun k => w.heap.size ≤ k) w (wr.alloc (.cells #[.string ⟨x.toArray⟩, .string ⟨y.toArray⟩] 37)) := hfr.alloc _
      have br := hrow.alloc (.cells #[.string ⟨x.toArray⟩, .string ⟨y.toArray⟩] 37)
      have bq : ∀ k, u3.ownBlock = some k → k < wr.heap.size := fun k hk => (hrow.lt k hk).2
      generalize wr.alloc (.cells #[.string ⟨x.toArray⟩, .string ⟨y.toArray⟩] 37) = V at *
      generalize wr.heap.size = q at *
      clear d1 d2 hrow hfr
      have m2 : ∀ w2, Below V.drew.heap.size V.drew w2 → w2.cell? ⟨q, 0, none⟩ = some (str x) ∧ w2.cell? ⟨q, 1, none⟩ = some (str y) ∧ w2.ownsRow w.heap.size 37 2 u3 k (pcs acc) ∧ Fr (fun k => w.heap.size ≤ k) w w2 := fun w2 hb1 =>
        have hb2 : Below V.heap.size V w2 := ⟨hb1.os, hb1.tape, hb1.output, hb1.size, hb1.block⟩
        ⟨(Fr.of_below0 hb2).cell b1 (fun h => h), (Fr.of_below0 hb2).cell b2 (fun h => h), own_fr br (Fr.of_below0 hb2) (fun _ _ _ _ h => h), bf.then_ (Fr.of_below0 hb2) (fun _ _ h => h.elim)⟩
      go_region_held3 (fun w' => w'.cell? ⟨q, 0, none⟩ = some (str x) ∧ w'.cell? ⟨q, 1, none⟩ = some (str y)) (go_keep)
        (first
          | (go_at_call_of 14 (str x); refine (hc1 _ (by omega)).mono ?_; rintro e w2 ⟨rfl, hb2⟩; obtain ⟨k1, k2, hrow2, hbf2⟩ := m2 w2 hb2)
          | (go_at_call_of 14 (str y); refine (hc2 _ (by omega)).mono ?_; rintro e w3 ⟨rfl, hb3⟩; have l1 := (Fr.of_below0 hb3).cell k1 (fun h => h); have l2 := (Fr.of_below0 hb3).cell k2 (fun h => h); have hrow3 := own_fr hrow2 (Fr.of_below0 hb3) (fun _ _ _ _ h => h); have hbf3 := hbf2.then_ (Fr.of_below0 hb3) (fun _ _ h => h.elim))
          | (refine step_app2 (hrow3.alloc (.cells #[str ex, str ey] 37)) 1 [str ex, str ey] Tryd.underlying24 pairInfo rfl (by decide) rfl h1c (by omega) (by omega) (by have := hbf3.size; simp; omega) (by rfl) (by rfl) (by rfl) (by rfl) (news_alloc w3 [str ex, str ey] 37) ?_; intro v' w4 hrow4 hfr4; have q1 := hfr4.cell (((Fr.refl (fun _ => False) w3).alloc _).cell l1 (fun h => h)) (fun h => absurd (bq _ h) (Nat.lt_irrefl _)); have q2 := hfr4.cell (((Fr.refl (fun _ => False) w3).alloc _).cell l2 (fun h => h)) (fun h => absurd (bq _ h) (Nat.lt_irrefl _))))
      all_goals
        go_wp2
        go_roundw
        case rel => exact ⟨k + 1, by omega, by go_num, by rw [hTk.out, pcs_snoc]; exact hrow4, Fr.own (hbf3.alloc _) (hrow3.alloc _) hfr4 fun _ h => h⟩
        case measure => simp [intOf]; omega
    · have hkn : k = n := by omega
      subst hkn
      rw [hE.out] at hrow
      have hsp := sort_pairs (ps.map Uri.enc2) w.heap.size u3 wr (by rw [hlm]; exact hrow) (by rw [hlm]; omega)
      clear hr hT hE hs hrow
      generalize Uri.sorted (ps.map Uri.enc2) = ss at *
      clear hlm
      go_wp2_with (go_at_call 24; refine hsp.mono ?_; clear hsp; rintro e w2 ⟨rfl, hf2, ⟨A2, c2, rfl, hc2, hp2⟩⟩)
      have hT2 : ∀ j, j < k → Hid ((ss.take (j + 1)).map Uri.piece = (ss.take j).map Uri.piece ++ [Uri.piece (ss.getD j ([], []))]) := fun j h => by
        show _ = _
        rw [List.take_succ_eq_append_getElem (by omega), List.map_append]
        simp [List.getD_eq_getElem?_getD, List.getElem?_eq_getElem (show j < ss.length by omega)]
      have hE2 : Hid ((ss.take k).map Uri.piece = ss.map Uri.piece) := by show _ = _; rw [← hsl, List.take_length]
      have hpl : (ss.map Uri.piece).length = k := by simp [hsl]
      have hsum : ((ss.map Uri.piece).map List.length).sum ≤ 300301000 := by
        have h9 := sum_bound (ss.map Uri.piece) 300001 (fun z hz => by
          obtain ⟨p, hp, rfl⟩ := List.mem_map.1 hz
          obtain ⟨i, hi, rfl⟩ := List.getElem_of_mem hp
          have h8 := hmem i (by omega)
          simp only [List.getD_eq_getElem?_getD, List.getElem?_eq_getElem hi, Option.getD_some] at h8
          simp [Uri.piece]; omega)
        rw [hpl] at h9
        have : k * 300001 ≤ 1000 * 300001 := Nat.mul_le_mul_right _ hl
        omega
      have hown2 : w2.ownsRow w2.heap.size 9 1 (.slice none 0 0) 0 (tcells ((ss.take 0).map Uri.piece)) := World.ownsRow_nil _ _ _ _
      unfold PRow at hp2
      rw [hsl] at hp2 hc2
      go_wp2
      go_loopw [6, 30] (fun v i wq => ∃ j : Nat, j ≤ k ∧ i = .int .i64 j ∧ wq.ownsRow w2.heap.size 9 1 v j (tcells ((ss.take j).map Uri.piece)) ∧ Fr (fun q => w2.heap.size ≤ q) w2 wq) (fun _ i _ => k - (intOf i).toNat)
      case atStart => exact ⟨0, Nat.zero_le _, rfl, hown2, Fr.refl _ _⟩
      case round =>
        obtain ⟨j, hj, rfl, hrow, hfq⟩ := hrel
        clear hown2
        by_cases hlt2 : j < k
        · obtain ⟨g, o, rfl, hg, hc⟩ := hp2 (by omega)
          have hTj := hT2 j hlt2
          have hsj := hmem j hlt2
          obtain ⟨c1, c3⟩ := hc j hlt2
          have d1 := hfq.cell c1 (by show ¬ w2.heap.size ≤ g; omega)
          have d2 := hfq.cell c3 (by show ¬ w2.heap.size ≤ g; omega)
          clear hc hp2 hT2 hE2 c1 c3 hmem hcan hsum hpl
          generalize ss.getD j ([], []) = p at *
          generalize (ss.take j).map Uri.piece = acc at *
          obtain ⟨x, y⟩ := p
          simp only at hsj d1 d2
          have hPB := Lib.hid (piece_bytes x y)
          have h1c : ∀ u ∈ [Value.string ((⟨x.toArray⟩ : ByteArray) ++ ⟨#[61]⟩ ++ ⟨y.toArray⟩)], u.oneCell' = true := one_cell1 rfl
          have hb2 := hfq.size
          have hnw := news_alloc (wr.alloc (.cells #[.string ⟨x.toArray⟩, .string ⟨y.toArray⟩] 37)) [.string (⟨x.toArray⟩ ++ ⟨#[61]⟩ ++ ⟨y.toArray⟩)] 9
          rw [show (wr.alloc (.cells #[.string ⟨x.toArray⟩, .string ⟨y.toArray⟩] 37)).heap.size = wr.heap.size + 1 by simp] at hnw
          go_wp2_with (at_builtin; go_must (refine app_row2 ((hrow.alloc (.cells #[.string ⟨x.toArray⟩, .string ⟨y.toArray⟩] 37)).alloc (.cells #[.string (⟨x.toArray⟩ ++ ⟨#[61]⟩ ++ ⟨y.toArray⟩)] 9)) 1 [.string (⟨x.toArray⟩ ++ ⟨#[61]⟩ ++ ⟨y.toArray⟩)] Tryd.underlying40 textInfo rfl (by decide) rfl h1c ?_ ?_ ?_ rfl rfl rfl rfl hnw ?_); omega; omega; (simp; omega); intro v' w4 hrow4 hfr4)
          go_roundw
          case rel => exact ⟨j + 1, by omega, by go_num, by rw [hTj.out, tcells, List.map_append]; rw [hPB.out] at hrow4; exact hrow4, Fr.own ((hfq.alloc _).alloc _) ((hrow.alloc _).alloc _) hfr4 fun _ h => h⟩
          case measure => simp [intOf]; omega
        · have hjk : j = k := by omega
          subst hjk
          rw [hE2.out] at hrow
          have hjn := strings_Join (ss.map Uri.piece) [38] w2.heap.size _ _ (by rw [hpl]; exact hrow) (by omega) ⟨by decide, by decide⟩ (by omega)
          clear hp2 hT2 hE2 hmem hsum
          rw [← hcan.out] at hjn
          clear hcan
          go_wp2_with (go_at_call 28; refine hjn.mono ?_; rintro e w4 ⟨rfl, hb4⟩)
          go_ret
          have hall : Fr (fun q => w.heap.size ≤ q) w _ := (hfr.trans hf2).then_ hfq fun q hq h => by have := hf2.size; have := hfr.size; omega
          exact ⟨rfl, (hall.below (Nat.le_refl _) fun q hq => by omega).trans (hb4.mono hall.size)⟩
end Go.Proofs.YtdfkinkihkgdbaaDoor
