/- The walk of UploadOrder. -/
import Derived.Test.YtdfkinkihkgdbaaUpOrdS
namespace Go.Proofs.Ytdfkinkihkgdbaa.PUp
open Go.RowKit Go.Shelf Go.Proofs.YtdfkinkihkgdbaaW.PrintWords Go.Proofs.YtdfkinkihkgdbaaW.PrintLast Go.Proofs.YtdfkinkihkgdbaaW.PrintMore
set_option linter.unusedVariables false
set_option maxHeartbeats 8000000 in
set_option maxRecDepth 100000 in
theorem law_UploadOrder (A : Option Addr) (c : Nat) (l : List S50) (w : World) (hr : Kd.C k50 w A l.length l) (hc : l.length ≤ c) (hB : ∀ j, (pD l j).length ≤ 140737488351232) :
    Calls Try.prog 8 #[.slice A l.length c] w fun e w' => e = .returned (.bool true) ∧ Below w.heap.size w w' := by
  have hu36 := Try.underlying36
  have hu45 := Try.underlying45
  have hu46 := Try.underlying46
  have hu50 := Try.underlying50
  have hu34 := Try.underlying34
  have hu39 := Try.underlying39
  have HR := Aside0.mk hr
  clear hr
  by_cases hn : l.length ≤ 100
  case neg =>
    have hd : decide ((l.length : Int) > 100) = true := decide_eq_true (by omega)
    go_enter Try.func8, Try.ntmps8
    go_wp2_with (go_at_call 21; refine (stelelaw16_alive.calls true _ rfl).mono ?_; rintro e w2 ⟨rfl, hb⟩; have HB := Aside0.mk hb; clear hb)
    go_ret
    exact ⟨rfl, HB.out⟩
  have hd : decide ((l.length : Int) > 100) = false := decide_eq_false (by omega)
  go_enter Try.func8, Try.ntmps8
  go_wp2
  have hO : OrdSt w w.heap.size (w.heap.size + 1) (w.heap.size + 1 + 1) none 0 (PP (fun _ => none)) (fls (fun _ => none)) (fun _ => .slice none 0 0) (((w.alloc (.cells #[.string ⟨#[]⟩, .string ⟨#[107]⟩, .int .u64 0, .int .u64 0, .slice none 0 0] 36)).alloc (.cells #[.slice none 0 0, .slice none 0 0, .slice none 0 0, .slice none 0 0, .slice none 0 0] 45)).alloc (.cells #[.bool false, .bool false, .bool false, .bool false, .bool false] 46)) := by
    refine ⟨blk_alloc (blk_alloc (blk_new w _) _) _, ?_, ?_, Kd.V_nil _ _ _ _ _, below_alloc (below_alloc (below_alloc (Below.refl _ _) _) _) _⟩
    · have h := blk_alloc (blk_new (w.alloc (.cells #[.string ⟨#[]⟩, .string ⟨#[107]⟩, .int .u64 0, .int .u64 0, .slice none 0 0] 36)) (.cells #[.slice none 0 0, .slice none 0 0, .slice none 0 0, .slice none 0 0, .slice none 0 0] 45)) (.cells #[.bool false, .bool false, .bool false, .bool false, .bool false] 46)
      rw [World.size_alloc] at h
      exact h
    · have h := blk_new ((w.alloc (.cells #[.string ⟨#[]⟩, .string ⟨#[107]⟩, .int .u64 0, .int .u64 0, .slice none 0 0] 36)).alloc (.cells #[.slice none 0 0, .slice none 0 0, .slice none 0 0, .slice none 0 0, .slice none 0 0] 45)) (.cells #[.bool false, .bool false, .bool false, .bool false, .bool false] 46)
      rw [World.size_alloc, World.size_alloc] at h
      exact h
  obtain ⟨g3, hg3⟩ : ∃ g, g = w.heap.size := ⟨_, rfl⟩
  obtain ⟨g4, hg4⟩ : ∃ g, g = w.heap.size + 1 := ⟨_, rfl⟩
  obtain ⟨g5, hg5⟩ : ∃ g, g = w.heap.size + 1 + 1 := ⟨_, rfl⟩
  have hO : OrdSt w g3 g4 g5 none 0 (PP (fun _ => none)) (fls (fun _ => none)) (fun _ => .slice none 0 0) (((w.alloc (.cells #[.string ⟨#[]⟩, .string ⟨#[107]⟩, .int .u64 0, .int .u64 0, .slice none 0 0] 36)).alloc (.cells #[.slice none 0 0, .slice none 0 0, .slice none 0 0, .slice none 0 0, .slice none 0 0] 45)).alloc (.cells #[.bool false, .bool false, .bool false, .bool false, .bool false] 46)) := by
    rw [hg3, hg4, hg5]; exact hO
  have w3 : w.heap.size ≤ g3 := by omega
  have w4 : w.heap.size ≤ g4 := by omega
  have w5 : w.heap.size ≤ g5 := by omega
  have n34 : g3 ≠ g4 := by omega
  have n35 : g3 ≠ g5 := by omega
  have n45 : g4 ≠ g5 := by omega
  rw [← hg5, ← hg4, ← hg3]
  clear hg3 hg4 hg5
  have HO := Aside0.mk hO
  clear hO
  go_loopg [6] l.length (fun kx s6 wr => ∃ (i : Nat) (d : Nat → Option (List Int)) (v : Nat → Value) (Au : Option Addr) (cu : Nat), s6 = .int .i64 i ∧ i + kx = l.length ∧ Aside0 (Short d) ∧ Aside0 (Ld w d v) ∧ Aside0 (OrdSt w g3 g4 g5 Au cu (PP d) (fls d) v wr))
  case atStart => exact ⟨0, fun _ => none, fun _ => .slice none 0 0, none, 0, rfl, by omega, .mk (fun n x h => by cases h), .mk ⟨fun n x h => (by cases h), fun n => ⟨none, 0, 0, rfl⟩⟩, HO⟩
  case round =>
    clear HO
    obtain ⟨i, d, v, Au, cu, rfl, hik, HS, HL, HO⟩ := hrel
    cases gk with
    | zero =>
      obtain rfl : i = l.length := by omega
      have hdi : decide ((l.length : Int) < (l.length : Int)) = false := decide_eq_false (by omega)
      have hu37 := Try.underlying37
      have info3 : (Try.prog.info? 3).map (fun i => (i.zero, i.size, i.bytes)) = some (some (.int .i64 0), 1, 8) := by kernel_rfl
      clear HR hB
      go_wp2
      obtain ⟨wz, hwz⟩ : ∃ z, z = wr := ⟨_, rfl⟩
      subst hwz
      go_loopg [9, 10, 11] 4 (fun kx s9 s10 s11 W => ∃ (k : Nat) (v9 v10 : Value), v9 = s9 ∧ v10 = s10 ∧ s11 = .int .i64 (((k + 1 : Nat) : Int)) ∧ k + kx = 4 ∧ Aside0 (Kd.R (Kd.int .i64) 3 W wz.heap.size (fun _ => True) v9 (NNp d k)) ∧ Aside0 (Kd.R (Kd.int .u8) 5 W wz.heap.size (fun _ => True) v10 (DDp d k)) ∧ Aside0 (Below wz.heap.size wz W))
      case atStart => exact ⟨0, _, _, rfl, rfl, rfl, by omega, .mk (Kd.R_nil _ _ _ _ _), .mk (Kd.R_nil _ _ _ _ _), .mk (Below.refl _ _)⟩
      case round =>
        obtain ⟨k, v9, v10, rfl, rfl, rfl, hkk, H9, H10, HW⟩ := hrel
        cases gk with
        | zero =>
          obtain rfl : k = 4 := by omega
          have hO2 := HO.out.below HW.out
          obtain ⟨A9, c9, rfl⟩ := Kd.R_slice H9.out
          obtain ⟨A10, c10, rfl⟩ := Kd.R_slice H10.out
          have s0 : wr.cell? ⟨g3, 0, none⟩ = some (.string alive_e) := (blk_cell hO2.b3 0).trans rfl
          have s1 : wr.cell? ⟨g3, 1, none⟩ = some (.string kKey) := (blk_cell hO2.b3 1).trans rfl
          have s2 : wr.cell? ⟨g3, 2, none⟩ = some (.int .u64 0) := (blk_cell hO2.b3 2).trans rfl
          have s3 : wr.cell? ⟨g3, 3, none⟩ = some (.int .u64 0) := (blk_cell hO2.b3 3).trans rfl
          have s4 : wr.cell? ⟨g3, 4, none⟩ = some (.slice Au (PP d).length cu) := (blk_cell hO2.b3 4).trans rfl
          have HO2 := Aside0.mk hO2
          clear hO2
          have hlp : (PP d).length = (NNp d 4).length := len_PP d
          have hne : ((((PP d).length : Nat) : Int) != (((NNp d 4).length : Nat) : Int)) = false := by rw [hlp]; simp
          clear hlp
          by_cases hz : (NNp d 4).length = 0
          · have HJ := Aside0.mk (join_no hz)
            have hz0 : ((((NNp d 4).length : Nat) : Int) == 0) = true := by rw [hz]; rfl
            clear hz
            go_wp2_with (first
              | (go_at_call 22; refine (upload_Join.calls 20 alive_e kKey 0 0 (fun k => k ≠ g3 ∧ k ≠ g4 ∧ k ≠ g5) Au cu (PP d) A9 c9 (NNp d 4) _ _ _ HO2.out.V (Kd.R_reads' H9.out).2.2 (Kd.R_reads' H9.out).2.1 HJ.out).mono ?_; rintro e w2 ⟨v2, rfl, ho2, hb2⟩; have HB2 := Aside0.mk hb2; clear ho2 hb2)
              | (go_at_call 21; refine (stelelaw16_alive.calls true _ rfl).mono ?_; rintro e w3 ⟨rfl, hb3⟩; have HB3 := Aside0.mk hb3; clear hb3))
            go_ret
            exact ⟨rfl, (HO2.out.bl.trans (HB2.out.mono HO2.out.bl.size)).trans (HB3.out.mono (HO2.out.bl.trans (HB2.out.mono HO2.out.bl.size)).size)⟩
          · have HJ := Aside0.mk (join_yes HS.out hz)
            have hz0 : ((((NNp d 4).length : Nat) : Int) == 0) = false := by rw [beq_eq_false_iff_ne]; omega
            clear hz
            have HT := Aside0.mk (total_PP HS.out)
            have HSm := Aside0.mk (same_DD HS.out)
            go_wp2_with (first
              | (go_at_call 22; refine (upload_Join.calls 20 alive_e kKey 0 0 (fun k => k ≠ g3 ∧ k ≠ g4 ∧ k ≠ g5) Au cu (PP d) A9 c9 (NNp d 4) _ _ _ HO2.out.V (Kd.R_reads' H9.out).2.2 (Kd.R_reads' H9.out).2.1 HJ.out).mono ?_; rintro e w2 ⟨v2, rfl, ho2, hb2⟩; obtain ⟨A2, c2, rfl⟩ := Kd.R_slice ho2; have HB2 := Aside0.mk hb2; have HR2 := Aside0.mk (Kd.R_reads' ho2); have HO3 := Aside0.mk (HO2.out.below hb2); clear ho2 hb2)
              | (go_at_call 24; refine (steleref01_Same.calls 10000 A2 c2 (DDp d 4) A10 c10 (DDp d 4) true _ HR2.out.2.2 HR2.out.2.1 (Kd.C_below (Kd.R_reads' H10.out).2.2 HB2.out) (Kd.R_reads' H10.out).2.1 HSm.out).mono ?_; rintro e w3 ⟨rfl, hb3⟩; have HO4 := Aside0.mk (HO3.out.below hb3.below); have t0 : w3.cell? ⟨g3, 0, none⟩ = some (.string alive_e) := (blk_cell HO4.out.b3 0).trans rfl; have t1 : w3.cell? ⟨g3, 1, none⟩ = some (.string kKey) := (blk_cell HO4.out.b3 1).trans rfl; have t2 : w3.cell? ⟨g3, 2, none⟩ = some (.int .u64 0) := (blk_cell HO4.out.b3 2).trans rfl; have t3 : w3.cell? ⟨g3, 3, none⟩ = some (.int .u64 0) := (blk_cell HO4.out.b3 3).trans rfl; have t4 : w3.cell? ⟨g3, 4, none⟩ = some (.slice Au (PP d).length cu) := (blk_cell HO4.out.b3 4).trans rfl; clear hb3)
              | (go_at_call 25; refine (upload_Total.calls 200 alive_e kKey 0 0 Au cu (PP d) _ _ (Kd.V_reads' HO4.out.V).2.2 (Kd.V_reads' HO4.out.V).2.1 HT.out).mono ?_; rintro e w4 ⟨rfl, hb4⟩; have HB4 := Aside0.mk (HO4.out.bl.trans (hb4.mono HO4.out.bl.size)); clear hb4)
              | (go_at_call 21; refine (stelelaw16_alive.calls true _ rfl).mono ?_; rintro e w5 ⟨rfl, hb5⟩; have HB5 := Aside0.mk (HB4.out.trans (hb5.mono HB4.out.size)); clear hb5))
            go_ret
            exact ⟨rfl, HB5.out⟩
        | succ kx =>
          have hk3 : k ≤ 3 := by omega
          have hd4 : decide ((((k + 1 : Nat) : Int)) ≤ 4) = true := decide_eq_true (by omega)
          have h00 : (0 : Int) ≤ ((k + 1 : Nat) : Int) := by omega
          have h05 : ((k + 1 : Nat) : Int) < 5 := by omega
          have hw : wrap64 (((k + 1 : Nat) : Int) + 1) = ((k + 1 + 1 : Nat) : Int) := by unfold wrap64; omega
          have HO2 := Aside0.mk (HO.out.below HW.out)
          obtain ⟨a50, a51⟩ := HO2.out.at5 (show 1 ≤ k + 1 by omega) (show k + 1 ≤ 4 by omega)
          obtain ⟨a40, a41⟩ := HO2.out.at4 (show k + 1 ≤ 4 by omega)
          cases hdk : d (k + 1) with
          | none =>
            have e0 : fls d (k + 1) = false := by unfold fls; rw [hdk]; rfl
            rw [e0] at a50
            have eN : NNp d (k + 1) = NNp d k := by show NNp d k ++ oN _ (d (k + 1)) = _; rw [hdk]; exact List.append_nil _
            have eD : DDp d (k + 1) = DDp d k := by show DDp d k ++ (oD (d (k + 1))).flatten = _; rw [hdk]; exact List.append_nil _
            go_wp2
            go_roundg kx
            case measure => omega
            case rel => exact ⟨k + 1, v9, v10, rfl, rfl, by first | rfl | (push_cast; rfl), by omega, by rw [eN]; exact H9, by rw [eD]; exact H10, HW⟩
          | some x =>
            have e0 : fls d (k + 1) = true := by unfold fls; rw [hdk]; rfl
            rw [e0] at a50
            have eN : NNp d k ++ [((k : Int) + 1)] = NNp d (k + 1) := by show _ = NNp d k ++ oN _ (d (k + 1)); rw [hdk]; show _ = NNp d k ++ [((k + 1 : Nat) : Int)]; push_cast; rfl
            have eD : DDp d k ++ x = DDp d (k + 1) := by show _ = DDp d k ++ (oD (d (k + 1))).flatten; rw [hdk]; unfold oD; rw [List.flatten_cons, List.flatten_nil, List.append_nil]
            obtain ⟨A1, c1, hv1, hc1, hC1⟩ := HL.out.1 _ _ hdk
            rw [hv1] at a40
            have HC1 := Aside0.mk hC1
            have hx := HS.out _ _ hdk
            have hlN := NNp_len d k
            have hlD := DDp_len HS.out k
            have hlen9 : ((NNp d k).length + 1) * 8 ≤ 140737488355328 := by omega
            have hlen10 : ((DDp d k).length + x.length) * 1 ≤ 140737488355328 := by omega
            clear hC1 hlN hlD
            go_wp2_with (first
              | ((with_reducible refine gate_builtin (b := .append) (xs := #[.tmp 90, .tmp 92]) rfl ?_); at_builtin; refine Kd.R_append (Kd.int .i64) (w0 := wz) wz.heap.size rfl (.tmp 90) (.tmp 92) 37 3 (.int .i64 0) 8 rfl Try.underlying37 info3 rfl (by decide) (by omega) v9 (NNp d k) ((k : Int) + 1) [.int .i64 ((k : Int) + 1)] (fun _ => True) (fun _ => False) rfl rfl ?aP (fun _ hk => hk.elim) (fun _ _ => trivial) H9.out HW.out (below_size HW.out) hlen9 ?_; (case aP => exact rfl); intro v2 w2 ho2 hb2 hg2 hat2; rw [eN] at ho2; have HN2 := Aside0.mk ho2; have HB2 := Aside0.mk hb2; have HD2 := Aside0.mk (Kd.R_over H10.out H9.out (by intro q hq; cases hq with | head => decide | tail _ h => cases h) hg2); obtain ⟨q40, q41⟩ := (HO.out.below hb2).at4 (show k + 1 ≤ 4 by omega); rw [hv1] at q40; clear ho2 hb2 hg2 hat2)
              | ((with_reducible refine gate_builtin (b := .append) (xs := #[.tmp 94, .tmp 97]) rfl ?_); at_builtin; refine Kd.R_append_rows (Kd.int .u8) (w0 := wz) wz.heap.size rfl (.tmp 94) (.tmp 97) 39 5 (.int .u8 0) 1 rfl Try.underlying39 info5 rfl (by decide) (by omega) v10 (DDp d k) x A1 x.length c1 (fun _ => True) (fun _ => False) rfl rfl HD2.out (Kd.C_below HC1.out (HO.out.below HB2.out).bl) (fun _ _ h => h) (fun _ h => h.elim) (fun _ _ => trivial) HB2.out (below_size HB2.out) hlen10 ?_; intro v3 w3 ho3 hb3 hg3 hat3; rw [eD] at ho3; have HN3 := Aside0.mk (Kd.R_over HN2.out HD2.out (by intro q hq; cases hq with | head => decide | tail _ h => cases h) hg3); have HD3 := Aside0.mk ho3; have HB3 := Aside0.mk hb3; clear ho3 hb3 hg3 hat3))
            go_roundg kx
            case measure => omega
            case rel => exact ⟨k + 1, v2, v3, rfl, rfl, by first | rfl | (push_cast; rfl), by omega, HN3, HD3, HB3⟩
    | succ kx =>
      have hi : i < l.length := by omega
      have hdi : decide ((i : Int) < (l.length : Int)) = true := decide_eq_true (by omega)
      obtain ⟨ad, A1, c1, hA, hc0, hc1, hl1, hC1⟩ := at_T50 HR.out (i : Int) (by omega) (by omega)
      subst hA
      rw [rdT] at hc0 hc1 hl1 hC1
      simp only [Int.toNat_natCast] at hc0 hc1
      have hbx := hB i
      have hbx : (l.getD i z50).f1.length ≤ 140737488351232 := hbx
      generalize l.getD i z50 = x at hc0 hc1 hl1 hC1 hbx
      obtain ⟨t, data⟩ := x
      simp only at hc0 hc1 hl1 hC1 hbx
      have HC := Aside0.mk hC1
      clear hC1
      have kb : ∀ W : World, OrdSt w g3 g4 g5 Au cu (PP d) (fls d) v W → W.cell? ⟨g3, 0, none⟩ = some (.string alive_e) ∧ W.cell? ⟨g3, 1, none⟩ = some (.string kKey) ∧ W.cell? ⟨g3, 2, none⟩ = some (.int .u64 0) ∧ W.cell? ⟨g3, 3, none⟩ = some (.int .u64 0) ∧ W.cell? ⟨g3, 4, none⟩ = some (.slice Au (PP d).length cu) ∧ W.cell? (ad.add (i * 2)) = some (.int .i64 t) ∧ W.cell? ⟨(ad.add (i * 2)).block, (ad.add (i * 2)).off + 1, none⟩ = some (.slice A1 data.length c1) ∧ OrdSt w g3 g4 g5 Au cu (PP d) (fls d) v W := fun W h =>
        ⟨(blk_cell h.b3 0).trans rfl, (blk_cell h.b3 1).trans rfl, (blk_cell h.b3 2).trans rfl, (blk_cell h.b3 3).trans rfl, (blk_cell h.b3 4).trans rfl, (h.bl.cell (World.block_lt_of_cell? w _ hc0)).trans hc0, (h.bl.cell (World.block_lt_of_cell? w _ hc1)).trans hc1, h⟩
      have kW : ∀ W : World, Below wr.heap.size wr W → W.cell? ⟨g3, 0, none⟩ = some (.string alive_e) ∧ W.cell? ⟨g3, 1, none⟩ = some (.string kKey) ∧ W.cell? ⟨g3, 2, none⟩ = some (.int .u64 0) ∧ W.cell? ⟨g3, 3, none⟩ = some (.int .u64 0) ∧ W.cell? ⟨g3, 4, none⟩ = some (.slice Au (PP d).length cu) ∧ W.cell? (ad.add (i * 2)) = some (.int .i64 t) ∧ W.cell? ⟨(ad.add (i * 2)).block, (ad.add (i * 2)).off + 1, none⟩ = some (.slice A1 data.length c1) ∧ OrdSt w g3 g4 g5 Au cu (PP d) (fls d) v W := fun W hb => kb W (HO.out.below hb)
      have kV : ∀ W : World, Below wr.heap.size wr W → Kd.V k50 50 W W.heap.size (fun k => (k ≠ g3 ∧ k ≠ g4 ∧ k ≠ g5) ∧ k < wr.heap.size) (.slice Au (PP d).length cu) (PP d) := fun W hb => Kd.V_below (Kd.V_bound HO.out.V) hb
      have kC : ∀ W : World, Below wr.heap.size wr W → Kd.C (Kd.int .u8) W A1 data.length data := fun W hb => Kd.C_below HC.out (HO.out.below hb).bl
      have g3l := blk_lt HO.out.b3
      have g4l := blk_lt HO.out.b4
      have g5l := blk_lt HO.out.b5
      by_cases ok : 1 ≤ t ∧ t ≤ 4 ∧ data.length ≤ 1536
      case neg =>
        obtain ⟨cc, hcc, hput⟩ := put_no d t data ok
        have HP := Aside0.mk hput
        have hcd : (cc != 0) = true := bne_iff_ne.mpr hcc
        clear hput
        go_upto_region 9 with fail
        go_region_held3 (fun w' => w'.cell? ⟨g3, 0, none⟩ = some (.string alive_e) ∧ w'.cell? ⟨g3, 1, none⟩ = some (.string kKey) ∧ w'.cell? ⟨g3, 2, none⟩ = some (.int .u64 0) ∧ w'.cell? ⟨g3, 3, none⟩ = some (.int .u64 0) ∧ w'.cell? ⟨g3, 4, none⟩ = some (.slice Au (PP d).length cu) ∧ w'.cell? (ad.add (i * 2)) = some (.int .i64 t) ∧ w'.cell? ⟨(ad.add (i * 2)).block, (ad.add (i * 2)).off + 1, none⟩ = some (.slice A1 data.length c1) ∧ OrdSt w g3 g4 g5 Au cu (PP d) (fls d) v w')
          ((refine kW _ ?_; repeat' (first | (with_reducible assumption) | (with_reducible exact Below.refl _ _) | (with_reducible refine below_alloc ?_ _) | (with_reducible refine below_drew1 ?_) | (refine Below.setCell (p := ⟨wr.heap.size, _, none⟩) ?_ (show wr.heap.size ≤ wr.heap.size from Nat.le_refl _) _))))
          (first
            | (go_at_call 27; refine (upload_Put.calls 9 alive_e kKey 0 0 (fun k => (k ≠ g3 ∧ k ≠ g4 ∧ k ≠ g5) ∧ k < wr.heap.size) Au cu (PP d) t A1 c1 data _ _ _ _ _ _ _ (kV _ (by repeat' (first | (with_reducible assumption) | (with_reducible exact Below.refl _ _) | (with_reducible refine below_alloc ?_ _) | (with_reducible refine below_drew1 ?_) | (refine Below.setCell (p := ⟨wr.heap.size, _, none⟩) ?_ (show wr.heap.size ≤ wr.heap.size from Nat.le_refl _) _)))) (kC _ (by repeat' (first | (with_reducible assumption) | (with_reducible exact Below.refl _ _) | (with_reducible refine below_alloc ?_ _) | (with_reducible refine below_drew1 ?_) | (refine Below.setCell (p := ⟨wr.heap.size, _, none⟩) ?_ (show wr.heap.size ≤ wr.heap.size from Nat.le_refl _) _)))) hl1 HP.out).mono ?_; rintro e w6 ⟨v6, rfl, hN6, hb6⟩; obtain ⟨A6, c6, rfl⟩ := Kd.N_slice hN6; have hW6 : Below wr.heap.size wr w6 := Below.trans (by repeat' (first | (with_reducible assumption) | (with_reducible exact Below.refl _ _) | (with_reducible refine below_alloc ?_ _) | (with_reducible refine below_drew1 ?_) | (refine Below.setCell (p := ⟨wr.heap.size, _, none⟩) ?_ (show wr.heap.size ≤ wr.heap.size from Nat.le_refl _) _))) (hb6.mono (by first | exact Nat.le_refl _ | (simp; done) | (simp; omega))); have HN6 := Aside0.mk hN6; first | ((with_reducible have y6 := z_blk hb6); obtain ⟨y30, y31, y32, y33, y34, y50, y51, y52, y53, y54⟩ := z_old y6; have Y6 := Aside0.mk y6; clear y6 hN6 hb6) | (obtain ⟨y30, y31, y32, y33, y34, y50, y51, y52, y53, y54⟩ := z_new w6; clear hN6 hb6)))
        all_goals rename_i hH
        all_goals have HH := Aside0.mk hH
        all_goals clear hH
        all_goals clear HN6 hW6 y30 y31 y32 y33 y34
        case' refine_2.refine_3.refine_3.refine_3.refine_3.refine_3.refine_3.refine_3.refine_3.refine_3.refine_3.refine_3.refine_1.refine_2.refine_3.refine_3.refine_3.refine_1.refine_2.refine_1.refine_2.refine_3 => generalize w6.alloc (.cells #[.string ⟨#[]⟩, .string ⟨#[]⟩, .int .u64 0, .int .u64 0, .slice A6 0 c6] 36) = W9 at HH ⊢
        case' refine_2.refine_3.refine_3.refine_3.refine_3.refine_3.refine_3.refine_3.refine_3.refine_3.refine_3.refine_3.refine_2.refine_1.refine_2.refine_1.refine_2.refine_3.refine_3.refine_3.refine_1.refine_2.refine_3 => generalize ((((w6.setCell ⟨wr.heap.size, 0, none⟩ (.string ⟨#[]⟩)).setCell ⟨wr.heap.size, 1, none⟩ (.string ⟨#[]⟩)).setCell ⟨wr.heap.size, 2, none⟩ (.int .u64 0)).setCell ⟨wr.heap.size, 3, none⟩ (.int .u64 0)).setCell ⟨wr.heap.size, 4, none⟩ (.slice A6 0 c6) = W9 at HH ⊢
        all_goals obtain ⟨s0, s1, s2, s3, s4, s5, s6, _⟩ := HH.out
        all_goals have HO' := Aside0.mk HH.out.2.2.2.2.2.2.2
        all_goals clear HH HO kW kV kC kb
        all_goals
          by_cases hb1 : t < 1
          · have hd1 : decide (t < 1) = true := decide_eq_true hb1
            go_wp2
            go_roundg kx
            case measure => omega
            case rel => exact ⟨i + 1, d, v, Au, cu, by push_cast; rfl, by omega, HS, HL, HO'⟩
          · have hd1 : decide (t < 1) = false := decide_eq_false hb1
            by_cases hb2 : t > 4
            · have hd2 : decide (t > 4) = true := decide_eq_true hb2
              go_wp2
              go_roundg kx
              case measure => omega
              case rel => exact ⟨i + 1, d, v, Au, cu, by push_cast; rfl, by omega, HS, HL, HO'⟩
            · have hd2 : decide (t > 4) = false := decide_eq_false hb2
              have hd3 : decide ((data.length : Int) > 1536) = true := decide_eq_true (by omega)
              go_wp2
              go_roundg kx
              case measure => omega
              case rel => exact ⟨i + 1, d, v, Au, cu, by push_cast; rfl, by omega, HS, HL, HO'⟩
      obtain ⟨ok1, ok4, ok5⟩ := ok
      obtain ⟨n, rfl⟩ : ∃ n : Nat, t = (n : Int) := ⟨t.toNat, by omega⟩
      have n1 : 1 ≤ n := by omega
      have n4 : n ≤ 4 := by omega
      obtain ⟨L', hL'⟩ : ∃ L', L' = PP (upd d n (some data)) := ⟨_, rfl⟩
      have hput := put_PP HS.out n n1 n4 data ok5
      rw [← hL'] at hput
      have HP := Aside0.mk hput
      have HL' := Aside0.mk hL'
      have hcd : ((0 : Int) != 0) = false := rfl
      clear hput hL'
      go_upto_region 9 with fail
      go_region_held3 (fun w' => w'.cell? ⟨g3, 0, none⟩ = some (.string alive_e) ∧ w'.cell? ⟨g3, 1, none⟩ = some (.string kKey) ∧ w'.cell? ⟨g3, 2, none⟩ = some (.int .u64 0) ∧ w'.cell? ⟨g3, 3, none⟩ = some (.int .u64 0) ∧ w'.cell? ⟨g3, 4, none⟩ = some (.slice Au (PP d).length cu) ∧ w'.cell? (ad.add (i * 2)) = some (.int .i64 (n : Int)) ∧ w'.cell? ⟨(ad.add (i * 2)).block, (ad.add (i * 2)).off + 1, none⟩ = some (.slice A1 data.length c1) ∧ OrdSt w g3 g4 g5 Au cu (PP d) (fls d) v w')
        ((refine kW _ ?_; repeat' (first | (with_reducible assumption) | (with_reducible exact Below.refl _ _) | (with_reducible refine below_alloc ?_ _) | (with_reducible refine below_drew1 ?_) | (refine Below.setCell (p := ⟨wr.heap.size, _, none⟩) ?_ (show wr.heap.size ≤ wr.heap.size from Nat.le_refl _) _))))
        (first
          | (go_at_call 27; refine (upload_Put.calls 9 alive_e kKey 0 0 (fun k => (k ≠ g3 ∧ k ≠ g4 ∧ k ≠ g5) ∧ k < wr.heap.size) Au cu (PP d) (n : Int) A1 c1 data _ _ _ _ _ _ _ (kV _ (by repeat' (first | (with_reducible assumption) | (with_reducible exact Below.refl _ _) | (with_reducible refine below_alloc ?_ _) | (with_reducible refine below_drew1 ?_) | (refine Below.setCell (p := ⟨wr.heap.size, _, none⟩) ?_ (show wr.heap.size ≤ wr.heap.size from Nat.le_refl _) _)))) (kC _ (by repeat' (first | (with_reducible assumption) | (with_reducible exact Below.refl _ _) | (with_reducible refine below_alloc ?_ _) | (with_reducible refine below_drew1 ?_) | (refine Below.setCell (p := ⟨wr.heap.size, _, none⟩) ?_ (show wr.heap.size ≤ wr.heap.size from Nat.le_refl _) _)))) hl1 HP.out).mono ?_; rintro e w6 ⟨v6, rfl, hN6, hb6⟩; obtain ⟨A6, c6, rfl⟩ := Kd.N_slice hN6; have hW6 : Below wr.heap.size wr w6 := Below.trans (by repeat' (first | (with_reducible assumption) | (with_reducible exact Below.refl _ _) | (with_reducible refine below_alloc ?_ _) | (with_reducible refine below_drew1 ?_) | (refine Below.setCell (p := ⟨wr.heap.size, _, none⟩) ?_ (show wr.heap.size ≤ wr.heap.size from Nat.le_refl _) _))) (hb6.mono (by first | exact Nat.le_refl _ | (simp; done) | (simp; omega))); have HN6 := Aside0.mk hN6; first | ((with_reducible have y6 := z_blk hb6); obtain ⟨y30, y31, y32, y33, y34, y50, y51, y52, y53, y54⟩ := z_old y6; have Y6 := Aside0.mk y6; clear y6 hN6 hb6) | (obtain ⟨y30, y31, y32, y33, y34, y50, y51, y52, y53, y54⟩ := z_new w6; clear hN6 hb6)))
      all_goals rename_i hH
      all_goals have HH := Aside0.mk hH
      all_goals clear hH

      case' refine_2.refine_3.refine_3.refine_3.refine_3.refine_3.refine_3.refine_3.refine_3.refine_3.refine_3.refine_3.refine_1.refine_2.refine_3.refine_3.refine_3.refine_1.refine_2.refine_1.refine_2.refine_3 => 
        have HBx := Aside0.mk (BoxSt.one g3l g4l g5l (Nat.le_refl _) HN6.out)
        clear HN6 hW6 y30 y31 y32 y33 y34
        generalize (w6.alloc (.cells #[.string alive_e, .string kKey, .int .u64 0, .int .u64 0, .slice A6 L'.length c6] 36)) = W9 at HH HBx ⊢
        generalize w6.heap.size = g7 at HBx ⊢
      case' refine_2.refine_3.refine_3.refine_3.refine_3.refine_3.refine_3.refine_3.refine_3.refine_3.refine_3.refine_3.refine_2.refine_1.refine_2.refine_1.refine_2.refine_3.refine_3.refine_3.refine_1.refine_2.refine_3 =>
        have HBx := Aside0.mk (BoxSt.two g3l g4l g5l (by simp) HN6.out Y6.out)
        clear HN6 Y6 hW6 y30 y31 y32 y33 y34
        have e5 : ((((w6.setCell ⟨wr.heap.size, 0, none⟩ (.string alive_e)).setCell ⟨wr.heap.size, 1, none⟩ (.string kKey)).setCell ⟨wr.heap.size, 2, none⟩ (.int .u64 0)).setCell ⟨wr.heap.size, 3, none⟩ (.int .u64 0)).setCell ⟨wr.heap.size, 4, none⟩ (.slice A6 L'.length c6) = put5 w6 wr.heap.size (.string alive_e) (.string kKey) (.int .u64 0) (.int .u64 0) (.slice A6 L'.length c6) := rfl
        rw [e5] at HH ⊢
        clear e5
        generalize (put5 w6 wr.heap.size (.string alive_e) (.string kKey) (.int .u64 0) (.int .u64 0) (.slice A6 L'.length c6)) = W9 at HH HBx ⊢
        obtain ⟨g7, hg7⟩ : ∃ g7, g7 = wr.heap.size := ⟨_, rfl⟩
        rw [← hg7] at HBx ⊢
        clear hg7
      all_goals have HO' := Aside0.mk HH.out.2.2.2.2.2.2.2
      all_goals clear HH HO kW kV kC kb
      all_goals
        have x0 : W9.cell? (ad.add (i * 2)) = some (.int .i64 (n : Int)) := (HO'.out.bl.cell (World.block_lt_of_cell? w _ hc0)).trans hc0
        have x1 : W9.cell? ⟨(ad.add (i * 2)).block, (ad.add (i * 2)).off + 1, none⟩ = some (.slice A1 data.length c1) := (HO'.out.bl.cell (World.block_lt_of_cell? w _ hc1)).trans hc1
        have dd1 : decide ((n : Int) < 1) = false := decide_eq_false (by omega)
        have dd2 : decide ((n : Int) > 4) = false := decide_eq_false (by omega)
        have dd3 : decide ((data.length : Int) > 1536) = false := decide_eq_false (by omega)
        have y0 : W9.cell? ⟨g7, 0, none⟩ = some (.string alive_e) := (blk_cell HBx.out.b7 0).trans rfl
        have y1 : W9.cell? ⟨g7, 1, none⟩ = some (.string kKey) := (blk_cell HBx.out.b7 1).trans rfl
        have y2 : W9.cell? ⟨g7, 2, none⟩ = some (.int .u64 0) := (blk_cell HBx.out.b7 2).trans rfl
        have y3 : W9.cell? ⟨g7, 3, none⟩ = some (.int .u64 0) := (blk_cell HBx.out.b7 3).trans rfl
        have y4 : W9.cell? ⟨g7, 4, none⟩ = some (.slice A6 L'.length c6) := (blk_cell HBx.out.b7 4).trans rfl
        have s0 : W9.cell? ⟨g3, 0, none⟩ = some (.string alive_e) := (blk_cell HO'.out.b3 0).trans rfl
        have s1 : W9.cell? ⟨g3, 1, none⟩ = some (.string kKey) := (blk_cell HO'.out.b3 1).trans rfl
        have s2 : W9.cell? ⟨g3, 2, none⟩ = some (.int .u64 0) := (blk_cell HO'.out.b3 2).trans rfl
        have s3 : W9.cell? ⟨g3, 3, none⟩ = some (.int .u64 0) := (blk_cell HO'.out.b3 3).trans rfl
        have s4 : W9.cell? ⟨g3, 4, none⟩ = some (.slice Au (PP d).length cu) := (blk_cell HO'.out.b3 4).trans rfl
        have f0 := blk_frozen HO'.out.b3 0
        have f1 := blk_frozen HO'.out.b3 1
        have f2 := blk_frozen HO'.out.b3 2
        have f3 := blk_frozen HO'.out.b3 3
        have f4 := blk_frozen HO'.out.b3 4
        go_upto_region 14 with fail
        have HO10 := Aside0.mk (OrdSt.box HO'.out HBx.out.V n34 n35 w3)
        clear HBx HO' x0 x1 y0 y1 y2 y3 y4 s0 s1 s2 s3 s4 f0 f1 f2 f3 f4
        have e5 : ((((W9.setCell ⟨g3, 0, none⟩ (.string alive_e)).setCell ⟨g3, 1, none⟩ (.string kKey)).setCell ⟨g3, 2, none⟩ (.int .u64 0)).setCell ⟨g3, 3, none⟩ (.int .u64 0)).setCell ⟨g3, 4, none⟩ (.slice A6 L'.length c6) = put5 W9 g3 (.string alive_e) (.string kKey) (.int .u64 0) (.int .u64 0) (.slice A6 L'.length c6) := rfl
        rw [e5]
        clear e5
        generalize (put5 W9 g3 (.string alive_e) (.string kKey) (.int .u64 0) (.int .u64 0) (.slice A6 L'.length c6)) = W10 at HO10 ⊢
      all_goals clear hO HP
      all_goals
        have kX : ∀ U : World, Below w.heap.size w U → Below w.heap.size w U ∧ U.cell? (ad.add (i * 2)) = some (.int .i64 (n : Int)) ∧ U.cell? ⟨(ad.add (i * 2)).block, (ad.add (i * 2)).off + 1, none⟩ = some (.slice A1 data.length c1) := fun U hb =>
          ⟨hb, (hb.cell (World.block_lt_of_cell? w _ hc0)).trans hc0, (hb.cell (World.block_lt_of_cell? w _ hc1)).trans hc1⟩
        have hX := kX W10 HO10.out.bl
        obtain ⟨hb10, x0, x1⟩ := hX
        obtain ⟨Av, mv, cv, hv⟩ := HL.out.2 n
        have a4 := HO10.out.at4 n4
        rw [hv] at a4
        obtain ⟨a40, a41⟩ := a4
        have h05 : (n : Int) < 5 := by omega
        have h00 : (0 : Int) ≤ (n : Int) := by omega
        go_region_held3 (fun U => Below w.heap.size w U ∧ U.cell? (ad.add (i * 2)) = some (.int .i64 (n : Int)) ∧ U.cell? ⟨(ad.add (i * 2)).block, (ad.add (i * 2)).off + 1, none⟩ = some (.slice A1 data.length c1))
          ((refine kX _ ?_; repeat' (first | (with_reducible assumption) | (with_reducible refine below_drew1 ?_) | (refine Below.setCell (p := ⟨g4, _, none⟩) ?_ w4 _))))
          (fail)
      all_goals rename_i hH
      all_goals
        have HO11 := Aside0.mk ((HO10.out.data n4 (.slice A1 data.length c1) n34 n45 w4).below (below_drew1 (Below.refl _ _)))
        generalize (W10.setCell ⟨g4, n, none⟩ (.slice A1 data.length c1)).drew = W11 at HO11 hH ⊢
        clear HO10 a40 a41 hv hb10 x0 x1
        obtain ⟨hb11, x0, x1⟩ := hH
        obtain ⟨a50, a51⟩ := HO11.out.at5 n1 n4
        go_wp2
        go_roundg kx
        case measure => omega
        case rel =>
          have hO := HO11.out.flag n1 n4 n35 n45 w5
          rw [← fls_upd d n data] at hO
          rw [HL'.out] at hO
          exact ⟨i + 1, upd d n (some data), _, A6, c6, by push_cast; rfl, by omega, .mk (HS.out.upd n ok5), .mk (HL.out.upd n hl1 HC.out), .mk hO⟩
end Go.Proofs.Ytdfkinkihkgdbaa.PUp
