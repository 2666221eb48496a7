/- Contracts of Go functions, walked; written by a program out of the translation and of contracts of this work. -/
import Derived.Test.YtdfkinkihkgdbaaPUpx0
import Derived.Test.YtdfkinkihkgdbaaPUpx1
namespace Go.Proofs.Ytdfkinkihkgdbaa.PUp
open Go.RowKit Go.Proofs.YtdfkinkihkgdbaaW.PrintWords Go.Proofs.YtdfkinkihkgdbaaW.PrintLast Go.Proofs.YtdfkinkihkgdbaaW.PrintMore
attribute [local go_sem] max2_int min2_int max_two min_two max_three min_three max_four min_four   -- for this text's walks alone
set_option linter.unusedVariables false
set_option linter.unusedSimpArgs false

/-! ### upload_Join: function 22 -/
def upload_Join.l0 : Nat → List (List Int) → Int → List Int → Int → Int → ByteArray → ByteArray → Int → Int → List (S50) → Option (List Int × Int)
  | 0, _, _, _, _, _, _, _, _, _, _ => none
  | k + 1, x6, x7, x12, x13, x14, x110000, x110001, x110002, x110003, x110004 => if x14 < x13 then (if 0 ≤ x14 then (if x14 < (x12.length : Int) then ((upload_at.f k x110000 x110001 x110002 x110003 x110004 (rd x12 x14)).bind fun bt111 => (if bt111.2 = true then (if (rd x12 x14) ≤ x7 then (some (([] : List Int), 42)) else (if 0 ≤ bt111.1 then (if bt111.1 < (x110004.length : Int) then (if x6.length < 5864062014805 then (upload_Join.l0 k (x6 ++ [(rd_T50 x110004 bt111.1).f1]) (rd x12 x14) x12 x13 (wrap64 (x14 + 1)) x110000 x110001 x110002 x110003 x110004) else (none)) else (none)) else (none))) else (some (([] : List Int), 42)))) else (none)) else (none)) else (if (x6.length : Int) = 0 then (some (([] : List Int), 42)) else ((slices_Concat_byte_byte.f x6).bind fun t117 => (some (t117, 0))))
def upload_Join.f (k : Nat) (a0_0 : ByteArray) (a0_1 : ByteArray) (a0_2 : Int) (a0_3 : Int) (l0_4 : List (S50)) (l1 : List Int) : Option (List Int × Int) := upload_Join.l0 k ([] : List (List Int)) 0 l1 (l1.length : Int) 0 a0_0 a0_1 a0_2 a0_3 l0_4
theorem upload_Join.mono_l : ∀ k, (∀ y0 y1 y2 y3 y4 y5 y6 y7 y8 y9, LeO (upload_Join.l0 k y0 y1 y2 y3 y4 y5 y6 y7 y8 y9) (upload_Join.l0 (k + 1) y0 y1 y2 y3 y4 y5 y6 y7 y8 y9))
  | 0 => fun _ _ _ _ _ _ _ _ _ _ r h => by simp [upload_Join.l0] at h
  | k + 1 => by
    have ih0 := upload_Join.mono_l k
    · intro y0 y1 y2 y3 y4 y5 y6 y7 y8 y9
      unfold upload_Join.l0
      repeat' first
      | (with_reducible exact ih0 _ _ _ _ _ _ _ _ _ _)
      | (with_reducible exact upload_at.mono _ _ _ _ _ _ _)
      | (with_reducible exact LeO.refl _)
      | (with_reducible exact LeO.none _)
      | (with_reducible refine LeO.ite ?_ ?_)
      | (with_reducible refine LeO.bind ?_ (fun _ => ?_))
      | exact ih0 _ _ _ _ _ _ _ _ _ _
      | exact upload_at.mono _ _ _ _ _ _ _
      | exact LeO.none _
      | refine LeO.ite ?_ ?_
      | refine LeO.bind ?_ (fun _ => ?_)
theorem upload_Join.mono : ∀ a0 a1 a2 a3 a4 a5 k, LeO (upload_Join.f k a0 a1 a2 a3 a4 a5) (upload_Join.f (k + 1) a0 a1 a2 a3 a4 a5) := by
  intro a0 a1 a2 a3 a4 a5 k
  have ih0 := upload_Join.mono_l k
  unfold upload_Join.f
  repeat' first
      | (with_reducible exact ih0 _ _ _ _ _ _ _ _ _ _)
      | (with_reducible exact upload_at.mono _ _ _ _ _ _ _)
      | (with_reducible exact LeO.refl _)
      | (with_reducible exact LeO.none _)
      | (with_reducible refine LeO.ite ?_ ?_)
      | (with_reducible refine LeO.bind ?_ (fun _ => ?_))
      | exact ih0 _ _ _ _ _ _ _ _ _ _
      | exact upload_at.mono _ _ _ _ _ _ _
      | exact LeO.none _
      | refine LeO.ite ?_ ?_
      | refine LeO.bind ?_ (fun _ => ?_)
set_option maxHeartbeats 8000000 in
set_option maxRecDepth 100000 in
theorem upload_Join.calls (k : Nat) (a0_0 : ByteArray) (a0_1 : ByteArray) (a0_2 : Int) (a0_3 : Int) (P0_4_ : Nat → Prop) (A0_4 : Option Addr) (c0_4 : Nat) (l0_4 : List (S50)) (A1 : Option Addr) (c1 : Nat) (l1 : List Int) (r1 : List Int) (r2 : Int) (w : World) (hs0_4 : Kd.V k50 50 w w.heap.size (fun k_ => P0_4_ k_) (.slice A0_4 l0_4.length c0_4) l0_4) (hr1 : Kd.C (Kd.int .i64) w A1 l1.length l1) (hc1 : l1.length ≤ c1) (h : upload_Join.f k a0_0 a0_1 a0_2 a0_3 l0_4 l1 = some (r1, r2)) :
    Calls Try.prog 22 #[.agg #[.string a0_0, .string a0_1, .int .u64 a0_2, .int .u64 a0_3, .slice A0_4 l0_4.length c0_4], .slice A1 l1.length c1] w fun e w' => ∃ v0_ : Value, e = .returned (.tuple #[v0_, .int .i64 r2]) ∧ Kd.R (Kd.int .u8) 5 w' w.heap.size (fun k_ => (w.heap.size ≤ k_)) v0_ r1 ∧ Below w.heap.size w w' := by
  have hu36 := Try.underlying36
  have HO0_4 := Aside0.mk (show Kd.V k50 50 w w.heap.size (fun k_ => (P0_4_ k_ ∨ w.heap.size ≤ k_)) (.slice A0_4 l0_4.length c0_4) l0_4 from Kd.V_mono hs0_4 (fun k_ hk => .inl hk))
  have HR1 := Aside0.mk hr1
  have HC1 := Aside0.mk hc1
  clear hr1 hc1
  have HB := Aside0.mk (Below.refl w.heap.size w)
  have H : (upload_Join.l0 k ([] : List (List Int)) 0 l1 (l1.length : Int) 0 a0_0 a0_1 a0_2 a0_3 l0_4) = some (r1, r2) := h
  clear h
  have H' := Aside0.mk H
  clear H
  go_enter Try.func22, Try.ntmps22
  go_wp2_with (first | ((with_reducible refine gate_dst (N := 2) rfl ?_); refine box_event ?hg (N := 2) ?hd (cs := #[.string a0_0, .string a0_1, .int .u64 a0_2, .int .u64 a0_3, .slice A0_4 l0_4.length c0_4]) (t := 36) ?hr ?_; (case hd => rfl); (case hg => rfl); (case hr => first | (go_simp; done) | (go_simp; rfl)); intro gb109 hg w3 hbox hb; have n0_ := Aside0.mk (Kd.V_below (Kd.V_elderB (by (with_reducible repeat (first | apply Kd.V_alloc | apply Kd.V_drewN | apply Kd.V_drew)); exact HO0_4.out) gb109 (Nat.le_of_eq hg.symm)) hb); have n1_ := Aside0.mk (below_step (by repeat (first | (with_reducible first | exact HB.out | apply below_alloc | apply pw_below_drewN | apply below_drew1) | exact HB.out)) hb); have n2_ := Aside0.mk (hbox); have n3_ := Aside0.mk ((by rw [hg]; exact (below_size (by repeat (first | (with_reducible first | exact HB.out | apply below_alloc | apply pw_below_drewN | apply below_drew1) | exact HB.out))) : w.heap.size ≤ gb109)); have n4_ := Aside0.mk ((by rw [hg]; exact (below_size (by repeat (first | (with_reducible first | exact HB.out | apply below_alloc | apply pw_below_drewN | apply below_drew1) | exact HB.out))) : w.heap.size ≤ gb109)); clear HO0_4; clear HB; have HO0_4 := n0_; have HB := n1_; have BK109 := n2_; have GW109 := n3_; have GE109 := n4_; clear n0_ n1_ n2_ n3_ n4_; clear hb hbox hg))
  go_loopg [6, 7, 14] k (fun kq v6 v7 v14 w' => ∃ (x6_1 : List (List Int)) (x7_1 : Int) (x14_1 : Int), v7 = .int .i64 x7_1 ∧ v14 = .int .i64 x14_1 ∧ Aside0 (upload_Join.l0 kq x6_1 x7_1 l1 (l1.length : Int) x14_1 a0_0 a0_1 a0_2 a0_3 l0_4 = some (r1, r2)) ∧ Aside0 (kq ≤ k) ∧ Aside0 (Kd.N (Kd.slice 5 (Kd.int .u8)) 39 w' w.heap.size (fun k_ => (P0_4_ k_ ∨ w.heap.size ≤ k_) ∧ k_ ≠ gb109) v6 x6_1) ∧ Aside0 (Kd.V k50 50 w' w.heap.size (fun k_ => (P0_4_ k_ ∨ w.heap.size ≤ k_) ∧ some k_ ≠ (v6 : Value).ownBlock ∧ k_ ≠ gb109) (.slice A0_4 l0_4.length c0_4) l0_4) ∧ Aside0 (w'.heap[gb109]? = some (.cells #[.string a0_0, .string a0_1, .int .u64 a0_2, .int .u64 a0_3, (.slice A0_4 l0_4.length c0_4)] 36 (0, 0))) ∧ Aside0 (Below w.heap.size w w'))
  case atStart => exact ⟨(([] : List (List Int))), (0), (0), (by first | rfl | (simp; done) | (simp [*]; done)), (by first | rfl | (simp; done) | (simp [*]; done)), H', ⟨Nat.le_refl _⟩, ⟨by first | exact Kd.S_nil _ _ _ _ _ | exact Kd.N_nil _ _ _ _ _ | exact Kd.V_nil _ _ _ _ _ | exact Kd.Q_nil _ _ _ _ _ | exact Kd.R_nil _ _ _ _ _⟩, ⟨by (with_reducible repeat (first | apply Kd.V_alloc | apply Kd.V_drewN | apply Kd.V_drew)); exact Kd.V_mono HO0_4.out (fun _ hk => ⟨hk.1, ⟨(by simp [Value.ownBlock]), hk.2⟩⟩)⟩, ⟨by (with_reducible repeat (first | refine blk_drewN ?_ _ | refine blk_drew ?_ | refine blk_alloc ?_ _)); exact BK109.out⟩, ⟨by repeat (first | (with_reducible first | exact HB.out | apply below_alloc | apply pw_below_drewN | apply below_drew1 | refine below_set ?_ GE109.out) | exact HB.out)⟩⟩
  case round =>
    clear H'
    try clear c1
    try clear c2
    try clear p2
    obtain ⟨x6_1, x7_1, x14_1, rfl, rfl, HA, HK1, HO_6, HO_110004, BK109, HB⟩ := hrel
    cases gk with
    | zero => exact absurd HA.out (by simp [upload_Join.l0])
    | succ k1 =>
      have H := HA.out
      clear HA
      simp only [upload_Join.l0] at H
      by_cases c4 : x14_1 < (l1.length : Int)
      · rw [if_pos c4] at H
        have c4b0 : decide (x14_1 < (l1.length : Int)) = true := decide_eq_true c4
        clear c4
        by_cases c5 : 0 ≤ x14_1
        · rw [if_pos c5] at H
          have c5b0 : decide (0 ≤ x14_1) = true := decide_eq_true c5
          clear c5
          by_cases c6 : x14_1 < (l1.length : Int)
          · rw [if_pos c6] at H
            have c6b0 : decide (x14_1 < (l1.length : Int)) = true := decide_eq_true c6
            clear c6
            replace H := Option.bind_eq_some_iff.mp H
            obtain ⟨⟨t111, t112⟩, A70, H⟩ := H
            replace H : (if t112 = true then (if (rd l1 x14_1) ≤ x7_1 then (some (([] : List Int), 42)) else (if 0 ≤ t111 then (if t111 < (l0_4.length : Int) then (if x6_1.length < 5864062014805 then (upload_Join.l0 k1 (x6_1 ++ [(rd_T50 l0_4 t111).f1]) (rd l1 x14_1) l1 (l1.length : Int) (wrap64 (x14_1 + 1)) a0_0 a0_1 a0_2 a0_3 l0_4) else (none)) else (none)) else (none))) else (some (([] : List Int), 42))) = some (r1, r2) := H
            have A7 := Aside0.mk A70
            clear A70
            by_cases c8 : t112 = true
            · subst c8
              have H1 : (if (rd l1 x14_1) ≤ x7_1 then (some (([] : List Int), 42)) else (if 0 ≤ t111 then (if t111 < (l0_4.length : Int) then (if x6_1.length < 5864062014805 then (upload_Join.l0 k1 (x6_1 ++ [(rd_T50 l0_4 t111).f1]) (rd l1 x14_1) l1 (l1.length : Int) (wrap64 (x14_1 + 1)) a0_0 a0_1 a0_2 a0_3 l0_4) else (none)) else (none)) else (none))) = some (r1, r2) := by rw [if_pos rfl] at H; exact H
              clear H
              have H := H1
              clear H1
              by_cases c9 : (rd l1 x14_1) ≤ x7_1
              · rw [if_pos c9] at H
                have c9b0 : decide ((rd l1 x14_1) ≤ x7_1) = true := decide_eq_true c9
                clear c9
                simp only [Option.some.injEq, Prod.mk.injEq] at H
                obtain ⟨rfl, rfl⟩ := H
                have p110 : 0 ≤ (x14_1 : Int) := of_decide_eq_true (by first | (with_reducible assumption) | assumption)
                have q110 : x14_1 < (l1.length : Int) := of_decide_eq_true (by first | (with_reducible assumption) | assumption)
                obtain ⟨ad110, e110, hx110_0⟩ := Kd.at_int HR1.out x14_1 p110 q110
                cases e110
                replace hx110_0 := (HB.out.cell (World.block_lt_of_cell? w _ hx110_0)).trans hx110_0
                replace p110 := eq_true p110
                replace q110 := eq_true q110
                have hcz10_0 : wr.cell? ⟨gb109, 0, none⟩ = some (.string a0_0) := (blk_cell BK109.out 0).trans rfl
                have hcz10_1 : wr.cell? ⟨gb109, 1, none⟩ = some (.string a0_1) := (blk_cell BK109.out 1).trans rfl
                have hcz10_2 : wr.cell? ⟨gb109, 2, none⟩ = some (.int .u64 a0_2) := (blk_cell BK109.out 2).trans rfl
                have hcz10_3 : wr.cell? ⟨gb109, 3, none⟩ = some (.int .u64 a0_3) := (blk_cell BK109.out 3).trans rfl
                have hcz10_4 : wr.cell? ⟨gb109, 4, none⟩ = some (.slice A0_4 l0_4.length c0_4) := (blk_cell BK109.out 4).trans rfl
                have hfz10_0 := blk_frozen BK109.out 0
                have hfz10_1 := blk_frozen BK109.out 1
                have hfz10_2 := blk_frozen BK109.out 2
                have hfz10_3 := blk_frozen BK109.out 3
                have hfz10_4 := blk_frozen BK109.out 4
                go_wp2_with (first | ((with_reducible refine gate_callee (f := 45) rfl ?_); refine goesL_ (some 21) rfl rfl Try.func45 (by kernel_rfl) rfl #[.agg #[.string a0_0, .string a0_1, .int .u64 a0_2, .int .u64 a0_3, .slice A0_4 l0_4.length c0_4], .int .i64 (rd l1 x14_1)] rfl (by (try simp only [List.map_toArray, List.map_cons, List.map_nil]); first | done | rfl | (simp only [List.length_drop, List.length_take]; rfl)) ?_; (with_reducible refine (upload_at.calls k1 a0_0 a0_1 a0_2 a0_3 _ _ l0_4 (rd l1 x14_1) t111 true _ ?side1 ?side2 A7.out).mono ?_); (case side1 => repeat (first | exact (Kd.V_reads' HO_110004.out).2.2 | (with_reducible refine Kd.C_alloc ?_ _) | (with_reducible refine Kd.C_drewN ?_ _) | (with_reducible refine Kd.C_drew ?_))); (case side2 => exact (Kd.V_reads' HO_110004.out).2.1); rintro e w11 ⟨rfl, hb⟩; refine ⟨_, rfl, ?_⟩; have n0_ := Aside0.mk (Kd.N_below (by (with_reducible repeat (first | apply Kd.N_alloc | apply Kd.N_drewN | apply Kd.N_drew)); exact HO_6.out) hb); have n1_ := Aside0.mk (Kd.V_below (by (with_reducible repeat (first | apply Kd.V_alloc | apply Kd.V_drewN | apply Kd.V_drew)); exact HO_110004.out) hb); have n2_ := Aside0.mk (blk_below (g := gb109) (o := .cells #[.string a0_0, .string a0_1, .int .u64 a0_2, .int .u64 a0_3, .slice A0_4 l0_4.length c0_4] 36 (0, 0)) (by (with_reducible repeat (first | refine blk_drewN ?_ _ | refine blk_drew ?_ | refine blk_alloc ?_ _)); exact BK109.out) hb); have n3_ := Aside0.mk (below_step (by repeat (first | (with_reducible first | exact HB.out | apply below_alloc | apply pw_below_drewN | apply below_drew1 | refine below_set ?_ GE109.out) | exact HB.out)) hb); clear HO_6; clear HO_110004; clear BK109; clear HB; have HO_6 := n0_; have HO_110004 := n1_; have BK109 := n2_; have HB := n3_; clear n0_ n1_ n2_ n3_; (try clear hb); (try clear hb2); (try clear hk); (try clear hi)))
                go_ret2
                exact ⟨_, by first | rfl | (simp [errW_none, errW_some] <;> rfl) | (simp [*, errW_none, errW_some] <;> rfl), by first | exact Kd.R_nil _ _ _ _ _ | exact Kd.N_nil _ _ _ _ _ | exact Kd.V_nil _ _ _ _ _ | exact Kd.Q_nil _ _ _ _ _ | exact Kd.S_nil _ _ _ _ _, by repeat (first | (with_reducible first | exact HB.out | apply below_alloc | apply pw_below_drewN | apply below_drew1 | refine below_set ?_ GE109.out) | exact HB.out)⟩
              · rw [if_neg c9] at H
                have c9b0 : decide ((rd l1 x14_1) ≤ x7_1) = false := decide_eq_false c9
                clear c9
                by_cases c12 : 0 ≤ t111
                · rw [if_pos c12] at H
                  have c12b0 : decide (0 ≤ t111) = true := decide_eq_true c12
                  clear c12
                  by_cases c13 : t111 < (l0_4.length : Int)
                  · rw [if_pos c13] at H
                    have c13b0 : decide (t111 < (l0_4.length : Int)) = true := decide_eq_true c13
                    clear c13
                    by_cases c14 : x6_1.length < 5864062014805
                    · rw [if_pos c14] at H
                      have LMc14 := Aside0.mk c14
                      clear c14
                      obtain ⟨y114, hy114⟩ : ∃ y_ : List (List Int), y_ = (x6_1 ++ [(rd_T50 l0_4 t111).f1]) := ⟨_, rfl⟩
                      replace H : (upload_Join.l0 k1 y114 (rd l1 x14_1) l1 (l1.length : Int) (wrap64 (x14_1 + 1)) a0_0 a0_1 a0_2 a0_3 l0_4) = some (r1, r2) := by first | (rw [hy114]; with_reducible exact H) | (have H2_ := (Option.bind_some _ _).symm.trans H; rw [hy114]; with_reducible exact H2_) | (have H2_ := (Option.bind_some _ _).symm.trans H; with_reducible exact H2_) | with_reducible exact H | (rw [hy114]; exact H) | exact H
                      have Ny114 := Aside0.mk hy114
                      clear hy114
                      have H' := Aside0.mk H
                      clear H
                      have p110 : 0 ≤ (x14_1 : Int) := of_decide_eq_true (by first | (with_reducible assumption) | assumption)
                      have q110 : x14_1 < (l1.length : Int) := of_decide_eq_true (by first | (with_reducible assumption) | assumption)
                      obtain ⟨ad110, e110, hx110_0⟩ := Kd.at_int HR1.out x14_1 p110 q110
                      cases e110
                      replace hx110_0 := (HB.out.cell (World.block_lt_of_cell? w _ hx110_0)).trans hx110_0
                      replace p110 := eq_true p110
                      replace q110 := eq_true q110
                      have hcz15_0 : wr.cell? ⟨gb109, 0, none⟩ = some (.string a0_0) := (blk_cell BK109.out 0).trans rfl
                      have hcz15_1 : wr.cell? ⟨gb109, 1, none⟩ = some (.string a0_1) := (blk_cell BK109.out 1).trans rfl
                      have hcz15_2 : wr.cell? ⟨gb109, 2, none⟩ = some (.int .u64 a0_2) := (blk_cell BK109.out 2).trans rfl
                      have hcz15_3 : wr.cell? ⟨gb109, 3, none⟩ = some (.int .u64 a0_3) := (blk_cell BK109.out 3).trans rfl
                      have hcz15_4 : wr.cell? ⟨gb109, 4, none⟩ = some (.slice A0_4 l0_4.length c0_4) := (blk_cell BK109.out 4).trans rfl
                      have hfz15_0 := blk_frozen BK109.out 0
                      have hfz15_1 := blk_frozen BK109.out 1
                      have hfz15_2 := blk_frozen BK109.out 2
                      have hfz15_3 := blk_frozen BK109.out 3
                      have hfz15_4 := blk_frozen BK109.out 4
                      go_wp2_with (first | ((with_reducible refine gate_callee (f := 45) rfl ?_); refine goesL_ (some 21) rfl rfl Try.func45 (by kernel_rfl) rfl #[.agg #[.string a0_0, .string a0_1, .int .u64 a0_2, .int .u64 a0_3, .slice A0_4 l0_4.length c0_4], .int .i64 (rd l1 x14_1)] rfl (by (try simp only [List.map_toArray, List.map_cons, List.map_nil]); first | done | rfl | (simp only [List.length_drop, List.length_take]; rfl)) ?_; (with_reducible refine (upload_at.calls k1 a0_0 a0_1 a0_2 a0_3 _ _ l0_4 (rd l1 x14_1) t111 true _ ?side1 ?side2 A7.out).mono ?_); (case side1 => repeat (first | exact (Kd.V_reads' HO_110004.out).2.2 | (with_reducible refine Kd.C_alloc ?_ _) | (with_reducible refine Kd.C_drewN ?_ _) | (with_reducible refine Kd.C_drew ?_))); (case side2 => exact (Kd.V_reads' HO_110004.out).2.1); rintro e w16 ⟨rfl, hb⟩; refine ⟨_, rfl, ?_⟩; have n0_ := Aside0.mk (Kd.N_below (by (with_reducible repeat (first | apply Kd.N_alloc | apply Kd.N_drewN | apply Kd.N_drew)); exact HO_6.out) hb); have n1_ := Aside0.mk (Kd.V_below (by (with_reducible repeat (first | apply Kd.V_alloc | apply Kd.V_drewN | apply Kd.V_drew)); exact HO_110004.out) hb); have n2_ := Aside0.mk (blk_below (g := gb109) (o := .cells #[.string a0_0, .string a0_1, .int .u64 a0_2, .int .u64 a0_3, .slice A0_4 l0_4.length c0_4] 36 (0, 0)) (by (with_reducible repeat (first | refine blk_drewN ?_ _ | refine blk_drew ?_ | refine blk_alloc ?_ _)); exact BK109.out) hb); have n3_ := Aside0.mk (below_step (by repeat (first | (with_reducible first | exact HB.out | apply below_alloc | apply pw_below_drewN | apply below_drew1 | refine below_set ?_ GE109.out) | exact HB.out)) hb); clear HO_6; clear HO_110004; clear BK109; clear HB; have HO_6 := n0_; have HO_110004 := n1_; have BK109 := n2_; have HB := n3_; clear n0_ n1_ n2_ n3_; (try clear hb); (try clear hb2); (try clear hk); (try clear hi); have hcz17_0 : w16.cell? ⟨gb109, 0, none⟩ = some (.string a0_0) := (blk_cell BK109.out 0).trans rfl; have hcz17_1 : w16.cell? ⟨gb109, 1, none⟩ = some (.string a0_1) := (blk_cell BK109.out 1).trans rfl; have hcz17_2 : w16.cell? ⟨gb109, 2, none⟩ = some (.int .u64 a0_2) := (blk_cell BK109.out 2).trans rfl; have hcz17_3 : w16.cell? ⟨gb109, 3, none⟩ = some (.int .u64 a0_3) := (blk_cell BK109.out 3).trans rfl; have hcz17_4 : w16.cell? ⟨gb109, 4, none⟩ = some (.slice A0_4 l0_4.length c0_4) := (blk_cell BK109.out 4).trans rfl; have hfz17_0 := blk_frozen BK109.out 0; have hfz17_1 := blk_frozen BK109.out 1; have hfz17_2 := blk_frozen BK109.out 2; have hfz17_3 := blk_frozen BK109.out 3; have hfz17_4 := blk_frozen BK109.out 4; have p113 : 0 ≤ (t111 : Int) := of_decide_eq_true (by first | (with_reducible assumption) | assumption); have q113 : t111 < (l0_4.length : Int) := of_decide_eq_true (by first | (with_reducible assumption) | assumption); obtain ⟨ad113, A113_1, c113_1, e113, hx113_0, hx113_1, hl113_1, hi113_1⟩ := at_T50 (Kd.V_reads' HO_110004.out).2.2 t111 p113 q113; cases e113; obtain ⟨ce113, hce113, hMe113, hcc113⟩ := Kd.V_get HO_110004.out z50 t111 p113 (by first | exact q113 | exact of_decide_eq_true (by first | (with_reducible assumption) | assumption) | (have e_ := (Kd.V_reads' HO_110004.out).1; omega)); obtain ⟨ua113_1, uc113_1, rfl, ul113_1, ge113_1⟩ := k50_openF hMe113; have hv113_1 := hcc113 1 _ rfl; rw [add_field _ _ 1 (by omega)] at hv113_1; replace hv113_1 := Option.some.inj (hv113_1.symm.trans hx113_1); injection hv113_1 with hva_ hvn_ hvc_; rw [hva_] at ge113_1; rw [hvc_] at ul113_1; have HL113_1 := Aside0.mk (show Kd.V (Kd.int .u8) 5 _ w.heap.size _ _ ((rd_T50 l0_4 t111).f1) from Kd.V_mk ul113_1 ge113_1); clear hva_ hvn_ hvc_ ge113_1 ul113_1; clear hcc113 hce113; have HR113_1 := Aside0.mk hi113_1; have HC113_1 := Aside0.mk hl113_1; clear hi113_1 hl113_1; replace p113 := eq_true p113; replace q113 := eq_true q113) | ((with_reducible refine gate_builtin (b := .append) (xs := #[.tmp 32, .tmp 39]) rfl ?_); at_builtin; refine Kd.N_append (Kd.slice 5 (Kd.int .u8)) (w0 := w) w.heap.size rfl (.tmp 32) (.tmp 39) 82 39 (.slice none 0 0) 24 rfl Try.underlying82 info39 rfl (by decide) (by omega) u6 x6_1 ((rd_T50 l0_4 t111).f1) [.slice A113_1 ((rd_T50 l0_4 t111).f1).length c113_1] (fun k_ => (P0_4_ k_ ∨ w.heap.size ≤ k_) ∧ k_ ≠ gb109) (fun k_ => ((fun k_ => (P0_4_ k_ ∨ w.heap.size ≤ k_) ∧ k_ ≠ gb109)) k_ ∧ some k_ ≠ (u6 : Value).ownBlock) rfl rfl ?aP (fun _ hk => hk) ?aF ?aO ?aB ?aS ?aL ?_; (case aP => exact (Kd.FK_slice_mk (Kd.V_reads' (Kd.V_mono (ok' := (fun k_ => ((fun k_ => (P0_4_ k_ ∨ w.heap.size ≤ k_) ∧ k_ ≠ gb109)) k_ ∧ some k_ ≠ (u6 : Value).ownBlock)) (HL113_1.out) (fun k_ hk => ⟨⟨hk.1, hk.2.2⟩, hk.2.1⟩))).2.1 (Kd.V_F (Kd.V_mono (ok' := (fun k_ => ((fun k_ => (P0_4_ k_ ∨ w.heap.size ≤ k_) ∧ k_ ≠ gb109)) k_ ∧ some k_ ≠ (u6 : Value).ownBlock)) (HL113_1.out) (fun k_ hk => ⟨⟨hk.1, hk.2.2⟩, hk.2.1⟩))))); (case aB => exact (by repeat (first | (with_reducible first | exact HB.out | apply below_alloc | apply pw_below_drewN | apply below_drew1 | refine below_set ?_ GE109.out) | exact HB.out))); (case aF => exact (fun k_ hk => ⟨(.inr (Nat.le_trans (below_size (by repeat (first | (with_reducible first | exact HB.out | apply below_alloc | apply pw_below_drewN | apply below_drew1 | refine below_set ?_ GE109.out) | exact HB.out))) hk)), Kd.freshB (g := gb109) (o := .cells #[.string a0_0, .string a0_1, .int .u64 a0_2, .int .u64 a0_3, .slice (some ad113) l0_4.length c0_4] 36 (0, 0)) (by (with_reducible repeat (first | refine blk_drewN ?_ _ | refine blk_drew ?_ | refine blk_alloc ?_ _)); exact BK109.out) k_ hk⟩)); (case aO => exact (by (with_reducible repeat (first | apply Kd.N_alloc | apply Kd.N_drewN | apply Kd.N_drew)); exact HO_6.out)); (case aS => exact (below_size (by repeat (first | (with_reducible first | exact HB.out | apply below_alloc | apply pw_below_drewN | apply below_drew1 | refine below_set ?_ GE109.out) | exact HB.out)))); (case aL => have := LMc14.out; omega); intro v115 w18 ho hb hg hat; rw [← Ny114.out] at ho; have n0_ := Aside0.mk (Kd.V_afterv (ok := (fun k_ => (P0_4_ k_ ∨ w.heap.size ≤ k_) ∧ k_ ≠ gb109)) (by (with_reducible repeat (first | apply Kd.V_alloc | apply Kd.V_drewN | apply Kd.V_drew)); exact Kd.V_mono HO_110004.out (fun _ hk => ⟨⟨hk.1, hk.2.2⟩, hk.2.1⟩)) hg hat); have n1_ := Aside0.mk (blk_grown (g := gb109) (o := .cells #[.string a0_0, .string a0_1, .int .u64 a0_2, .int .u64 a0_3, .slice (some ad113) l0_4.length c0_4] 36 (0, 0)) (by (with_reducible repeat (first | refine blk_drewN ?_ _ | refine blk_drew ?_ | refine blk_alloc ?_ _)); exact BK109.out) hg (Kd.N_ne HO_6.out BK109.out (by decide))); have n2_ := Aside0.mk (Kd.V_afterv (ok := (fun k_ => (P0_4_ k_ ∨ w.heap.size ≤ k_) ∧ k_ ≠ gb109)) (by (with_reducible repeat (first | apply Kd.V_alloc | apply Kd.V_drewN | apply Kd.V_drew)); exact Kd.V_mono HL113_1.out (fun _ hk => ⟨⟨hk.1, hk.2.2⟩, hk.2.1⟩)) hg hat); have n3_ := Aside0.mk (hb); have n4_ := Aside0.mk (ho); clear HO_110004; clear BK109; clear HL113_1; clear HB; clear HO_6; have HO_110004 := n0_; have BK109 := n1_; have HL113_1 := n2_; have HB := n3_; have HO116 := n4_; clear n0_ n1_ n2_ n3_ n4_; clear ho hb hg hat))
                      go_roundg k1
                      case measure => have := HK1.out; omega
                      case rel => exact ⟨(y114), (rd l1 x14_1), (wrap64 (x14_1 + 1)), (by first | rfl | (simp; done) | (simp [*]; done)), (by first | rfl | (simp; done) | (simp [*]; done)), H', ⟨by have := HK1.out; omega⟩, ⟨by (with_reducible repeat (first | apply Kd.N_alloc | apply Kd.N_drewN | apply Kd.N_drew)); exact HO116.out⟩, ⟨by (with_reducible repeat (first | apply Kd.V_alloc | apply Kd.V_drewN | apply Kd.V_drew)); exact Kd.V_mono HO_110004.out (fun _ hk => ⟨hk.1.1, ⟨hk.2, hk.1.2⟩⟩)⟩, ⟨by (with_reducible repeat (first | refine blk_drewN ?_ _ | refine blk_drew ?_ | refine blk_alloc ?_ _)); exact BK109.out⟩, ⟨by repeat (first | (with_reducible first | exact HB.out | apply below_alloc | apply pw_below_drewN | apply below_drew1 | refine below_set ?_ GE109.out) | exact HB.out)⟩⟩
                    · rw [if_neg c14] at H
                      exact absurd H (by simp)
                  · rw [if_neg c13] at H
                    exact absurd H (by simp)
                · rw [if_neg c12] at H
                  exact absurd H (by simp)
            · replace c8 := Bool.eq_false_iff.mpr c8
              subst c8
              have H1 : (some (([] : List Int), 42)) = some (r1, r2) := by rw [if_neg (show ¬ (false = true) by decide)] at H; exact H
              clear H
              have H := H1
              clear H1
              simp only [Option.some.injEq, Prod.mk.injEq] at H
              obtain ⟨rfl, rfl⟩ := H
              have p110 : 0 ≤ (x14_1 : Int) := of_decide_eq_true (by first | (with_reducible assumption) | assumption)
              have q110 : x14_1 < (l1.length : Int) := of_decide_eq_true (by first | (with_reducible assumption) | assumption)
              obtain ⟨ad110, e110, hx110_0⟩ := Kd.at_int HR1.out x14_1 p110 q110
              cases e110
              replace hx110_0 := (HB.out.cell (World.block_lt_of_cell? w _ hx110_0)).trans hx110_0
              replace p110 := eq_true p110
              replace q110 := eq_true q110
              have hcz19_0 : wr.cell? ⟨gb109, 0, none⟩ = some (.string a0_0) := (blk_cell BK109.out 0).trans rfl
              have hcz19_1 : wr.cell? ⟨gb109, 1, none⟩ = some (.string a0_1) := (blk_cell BK109.out 1).trans rfl
              have hcz19_2 : wr.cell? ⟨gb109, 2, none⟩ = some (.int .u64 a0_2) := (blk_cell BK109.out 2).trans rfl
              have hcz19_3 : wr.cell? ⟨gb109, 3, none⟩ = some (.int .u64 a0_3) := (blk_cell BK109.out 3).trans rfl
              have hcz19_4 : wr.cell? ⟨gb109, 4, none⟩ = some (.slice A0_4 l0_4.length c0_4) := (blk_cell BK109.out 4).trans rfl
              have hfz19_0 := blk_frozen BK109.out 0
              have hfz19_1 := blk_frozen BK109.out 1
              have hfz19_2 := blk_frozen BK109.out 2
              have hfz19_3 := blk_frozen BK109.out 3
              have hfz19_4 := blk_frozen BK109.out 4
              go_wp2_with (first | ((with_reducible refine gate_callee (f := 45) rfl ?_); refine goesL_ (some 21) rfl rfl Try.func45 (by kernel_rfl) rfl #[.agg #[.string a0_0, .string a0_1, .int .u64 a0_2, .int .u64 a0_3, .slice A0_4 l0_4.length c0_4], .int .i64 (rd l1 x14_1)] rfl (by (try simp only [List.map_toArray, List.map_cons, List.map_nil]); first | done | rfl | (simp only [List.length_drop, List.length_take]; rfl)) ?_; (with_reducible refine (upload_at.calls k1 a0_0 a0_1 a0_2 a0_3 _ _ l0_4 (rd l1 x14_1) t111 false _ ?side1 ?side2 A7.out).mono ?_); (case side1 => repeat (first | exact (Kd.V_reads' HO_110004.out).2.2 | (with_reducible refine Kd.C_alloc ?_ _) | (with_reducible refine Kd.C_drewN ?_ _) | (with_reducible refine Kd.C_drew ?_))); (case side2 => exact (Kd.V_reads' HO_110004.out).2.1); rintro e w20 ⟨rfl, hb⟩; refine ⟨_, rfl, ?_⟩; have n0_ := Aside0.mk (Kd.N_below (by (with_reducible repeat (first | apply Kd.N_alloc | apply Kd.N_drewN | apply Kd.N_drew)); exact HO_6.out) hb); have n1_ := Aside0.mk (Kd.V_below (by (with_reducible repeat (first | apply Kd.V_alloc | apply Kd.V_drewN | apply Kd.V_drew)); exact HO_110004.out) hb); have n2_ := Aside0.mk (blk_below (g := gb109) (o := .cells #[.string a0_0, .string a0_1, .int .u64 a0_2, .int .u64 a0_3, .slice A0_4 l0_4.length c0_4] 36 (0, 0)) (by (with_reducible repeat (first | refine blk_drewN ?_ _ | refine blk_drew ?_ | refine blk_alloc ?_ _)); exact BK109.out) hb); have n3_ := Aside0.mk (below_step (by repeat (first | (with_reducible first | exact HB.out | apply below_alloc | apply pw_below_drewN | apply below_drew1 | refine below_set ?_ GE109.out) | exact HB.out)) hb); clear HO_6; clear HO_110004; clear BK109; clear HB; have HO_6 := n0_; have HO_110004 := n1_; have BK109 := n2_; have HB := n3_; clear n0_ n1_ n2_ n3_; (try clear hb); (try clear hb2); (try clear hk); (try clear hi)))
              go_ret2
              exact ⟨_, by first | rfl | (simp [errW_none, errW_some] <;> rfl) | (simp [*, errW_none, errW_some] <;> rfl), by first | exact Kd.R_nil _ _ _ _ _ | exact Kd.N_nil _ _ _ _ _ | exact Kd.V_nil _ _ _ _ _ | exact Kd.Q_nil _ _ _ _ _ | exact Kd.S_nil _ _ _ _ _, by repeat (first | (with_reducible first | exact HB.out | apply below_alloc | apply pw_below_drewN | apply below_drew1 | refine below_set ?_ GE109.out) | exact HB.out)⟩
          · rw [if_neg c6] at H
            exact absurd H (by simp)
        · rw [if_neg c5] at H
          exact absurd H (by simp)
      · rw [if_neg c4] at H
        have c4b0 : decide (x14_1 < (l1.length : Int)) = false := decide_eq_false c4
        clear c4
        by_cases c21 : (x6_1.length : Int) = 0
        · rw [if_pos c21] at H
          have c21b0 : ((x6_1.length : Int) == 0) = true := beq_iff_eq.mpr c21
          have c21b1 : ((x6_1.length : Int) != 0) = false := bne_eq_false_iff_eq.mpr c21
          clear c21
          simp only [Option.some.injEq, Prod.mk.injEq] at H
          obtain ⟨rfl, rfl⟩ := H
          obtain ⟨Ao22, co22, eo22⟩ := Kd.N_slice HO_6.out
          subst eo22
          go_wp2
          go_ret2
          exact ⟨_, by first | rfl | (simp [errW_none, errW_some] <;> rfl) | (simp [*, errW_none, errW_some] <;> rfl), by first | exact Kd.R_nil _ _ _ _ _ | exact Kd.N_nil _ _ _ _ _ | exact Kd.V_nil _ _ _ _ _ | exact Kd.Q_nil _ _ _ _ _ | exact Kd.S_nil _ _ _ _ _, by repeat (first | (with_reducible first | exact HB.out | apply below_alloc | apply pw_below_drewN | apply below_drew1 | refine below_set ?_ GE109.out) | exact HB.out)⟩
        · rw [if_neg c21] at H
          have c21b0 : ((x6_1.length : Int) == 0) = false := beq_eq_false_iff_ne.mpr c21
          have c21b1 : ((x6_1.length : Int) != 0) = true := bne_iff_ne.mpr c21
          have c21b2 : ¬ (x6_1 = []) := fun h_ => c21 (by rw [h_]; rfl)
          replace H := Option.bind_eq_some_iff.mp H
          obtain ⟨t117, A230, H⟩ := H
          replace H : (some (t117, 0)) = some (r1, r2) := H
          have A23 := Aside0.mk A230
          clear A230
          simp only [Option.some.injEq, Prod.mk.injEq] at H
          obtain ⟨rfl, rfl⟩ := H
          obtain ⟨Ao24, co24, eo24⟩ := Kd.N_slice HO_6.out
          subst eo24
          go_wp2_with (first | ((with_reducible refine gate_callee (f := 46) rfl ?_); refine goesL_ (some 46) rfl rfl Try.func46 (by kernel_rfl) rfl #[.slice Ao24 x6_1.length co24] rfl (by (try simp only [List.map_toArray, List.map_cons, List.map_nil]); first | done | rfl | (simp only [List.length_drop, List.length_take]; rfl)) ?_; (with_reducible refine (slices_Concat_byte_byte.calls _ _ x6_1 t117 _ ?side1 ?side2 A23.out).mono ?_); (case side1 => repeat (first | exact (Kd.N_reads' HO_6.out).2.2 | (with_reducible refine Kd.C_alloc ?_ _) | (with_reducible refine Kd.C_drewN ?_ _) | (with_reducible refine Kd.C_drew ?_))); (case side2 => exact (Kd.N_reads' HO_6.out).2.1); rintro e w25 ⟨v118, rfl, ho0, hb⟩; refine ⟨_, rfl, ?_⟩; have n0_ := Aside0.mk (Kd.N_elder' (by (with_reducible repeat (first | apply Kd.N_alloc | apply Kd.N_drewN | apply Kd.N_drew)); exact HO_6.out) (Kd.R_base ho0) hb); have n1_ := Aside0.mk (Kd.V_elder' (by (with_reducible repeat (first | apply Kd.V_alloc | apply Kd.V_drewN | apply Kd.V_drew)); exact HO_110004.out) (Kd.R_base ho0) hb); have n2_ := Aside0.mk (Kd.R_lower (Kd.R_newM (M := fun k_ => (w.heap.size ≤ k_)) ho0 (below_size (by repeat (first | (with_reducible first | exact HB.out | apply below_alloc | apply pw_below_drewN | apply below_drew1 | refine below_set ?_ GE109.out) | exact HB.out))) (fun k_ h_ => h_)) (below_size (by repeat (first | (with_reducible first | exact HB.out | apply below_alloc | apply pw_below_drewN | apply below_drew1 | refine below_set ?_ GE109.out) | exact HB.out)))); have n3_ := Aside0.mk (blk_below (g := gb109) (o := .cells #[.string a0_0, .string a0_1, .int .u64 a0_2, .int .u64 a0_3, .slice A0_4 l0_4.length c0_4] 36 (0, 0)) (by (with_reducible repeat (first | refine blk_drewN ?_ _ | refine blk_drew ?_ | refine blk_alloc ?_ _)); exact BK109.out) hb); have n4_ := Aside0.mk (below_step (by repeat (first | (with_reducible first | exact HB.out | apply below_alloc | apply pw_below_drewN | apply below_drew1 | refine below_set ?_ GE109.out) | exact HB.out)) hb); clear HO_6; clear HO_110004; clear BK109; clear HB; have HO_6 := n0_; have HO_110004 := n1_; have HO119 := n2_; have BK109 := n3_; have HB := n4_; clear n0_ n1_ n2_ n3_ n4_; (try clear hb); (try clear hb2); (try clear hk); (try clear hi); (try clear ho0)))
          go_ret2
          exact ⟨_, by first | rfl | (simp [errW_none, errW_some] <;> rfl) | (simp [*, errW_none, errW_some] <;> rfl), by (with_reducible repeat (first | apply Kd.R_alloc | apply Kd.R_drewN | apply Kd.R_drew)); exact Kd.R_mono HO119.out (fun _ hk => hk.1), by repeat (first | (with_reducible first | exact HB.out | apply below_alloc | apply pw_below_drewN | apply below_drew1 | refine below_set ?_ GE109.out) | exact HB.out)⟩

/-! ### upload_Total: function 25 -/
def upload_Total.l0 : Nat → Int → List (S50) → Int → Int → Option (Int)
  | 0, _, _, _, _ => none
  | k + 1, x3, x7, x8, x9 => if x9 < x8 then (if 0 ≤ x9 then (if x9 < (x7.length : Int) then (upload_Total.l0 k (wrap64 (x3 + (((rd_T50 x7 x9).f1).length : Int))) x7 x8 (wrap64 (x9 + 1))) else (none)) else (none)) else (some x3)
def upload_Total.f (k : Nat) (a0_0 : ByteArray) (a0_1 : ByteArray) (a0_2 : Int) (a0_3 : Int) (l0_4 : List (S50)) : Option (Int) := upload_Total.l0 k 0 l0_4 (l0_4.length : Int) 0
theorem upload_Total.mono_l : ∀ k, (∀ y0 y1 y2 y3, LeO (upload_Total.l0 k y0 y1 y2 y3) (upload_Total.l0 (k + 1) y0 y1 y2 y3))
  | 0 => fun _ _ _ _ r h => by simp [upload_Total.l0] at h
  | k + 1 => by
    have ih0 := upload_Total.mono_l k
    · intro y0 y1 y2 y3
      unfold upload_Total.l0
      repeat' first
      | (with_reducible exact ih0 _ _ _ _)
      | (with_reducible exact LeO.refl _)
      | (with_reducible exact LeO.none _)
      | (with_reducible refine LeO.ite ?_ ?_)
      | (with_reducible refine LeO.bind ?_ (fun _ => ?_))
      | exact ih0 _ _ _ _
      | exact LeO.none _
      | refine LeO.ite ?_ ?_
      | refine LeO.bind ?_ (fun _ => ?_)
theorem upload_Total.mono : ∀ a0 a1 a2 a3 a4 k, LeO (upload_Total.f k a0 a1 a2 a3 a4) (upload_Total.f (k + 1) a0 a1 a2 a3 a4) := by
  intro a0 a1 a2 a3 a4 k
  have ih0 := upload_Total.mono_l k
  unfold upload_Total.f
  repeat' first
      | (with_reducible exact ih0 _ _ _ _)
      | (with_reducible exact LeO.refl _)
      | (with_reducible exact LeO.none _)
      | (with_reducible refine LeO.ite ?_ ?_)
      | (with_reducible refine LeO.bind ?_ (fun _ => ?_))
      | exact ih0 _ _ _ _
      | exact LeO.none _
      | refine LeO.ite ?_ ?_
      | refine LeO.bind ?_ (fun _ => ?_)
set_option maxHeartbeats 8000000 in
set_option maxRecDepth 100000 in
theorem upload_Total.calls (k : Nat) (a0_0 : ByteArray) (a0_1 : ByteArray) (a0_2 : Int) (a0_3 : Int) (A0_4 : Option Addr) (c0_4 : Nat) (l0_4 : List (S50)) (r : Int) (w : World) (hr0_4 : Kd.C k50 w A0_4 l0_4.length l0_4) (hc0_4 : l0_4.length ≤ c0_4) (h : upload_Total.f k a0_0 a0_1 a0_2 a0_3 l0_4 = some r) :
    Calls Try.prog 25 #[.agg #[.string a0_0, .string a0_1, .int .u64 a0_2, .int .u64 a0_3, .slice A0_4 l0_4.length c0_4]] w fun e w' => e = .returned (.int .i64 r) ∧ Below w.heap.size w w' := by
  have hu36 := Try.underlying36
  have hu50 := Try.underlying50
  have HR0_4 := Aside0.mk hr0_4
  have HC0_4 := Aside0.mk hc0_4
  clear hr0_4 hc0_4
  have HB := Aside0.mk (Below.refl w.heap.size w)
  have H : (upload_Total.l0 k 0 l0_4 (l0_4.length : Int) 0) = some r := h
  clear h
  have H' := Aside0.mk H
  clear H
  go_enter Try.func25, Try.ntmps25
  go_wp2_with (first | ((with_reducible refine gate_dst (N := 1) rfl ?_); refine box_event ?hg (N := 1) ?hd (cs := #[.string a0_0, .string a0_1, .int .u64 a0_2, .int .u64 a0_3, .slice A0_4 l0_4.length c0_4]) (t := 36) ?hr ?_; (case hd => rfl); (case hg => rfl); (case hr => first | (go_simp; done) | (go_simp; rfl)); intro gb120 hg w2 hbox hb; have n0_ := Aside0.mk (below_step (by repeat (first | (with_reducible first | exact HB.out | apply below_alloc | apply pw_below_drewN | apply below_drew1) | exact HB.out)) hb); have n1_ := Aside0.mk (hbox); have n2_ := Aside0.mk ((by rw [hg]; exact (below_size (by repeat (first | (with_reducible first | exact HB.out | apply below_alloc | apply pw_below_drewN | apply below_drew1) | exact HB.out))) : w.heap.size ≤ gb120)); have n3_ := Aside0.mk ((by rw [hg]; exact (below_size (by repeat (first | (with_reducible first | exact HB.out | apply below_alloc | apply pw_below_drewN | apply below_drew1) | exact HB.out))) : w.heap.size ≤ gb120)); clear HB; have HB := n0_; have BK120 := n1_; have GW120 := n2_; have GE120 := n3_; clear n0_ n1_ n2_ n3_; clear hb hbox hg; have hcz3_0 : w2.cell? ⟨gb120, 0, none⟩ = some (.string a0_0) := (blk_cell BK120.out 0).trans rfl; have hcz3_1 : w2.cell? ⟨gb120, 1, none⟩ = some (.string a0_1) := (blk_cell BK120.out 1).trans rfl; have hcz3_2 : w2.cell? ⟨gb120, 2, none⟩ = some (.int .u64 a0_2) := (blk_cell BK120.out 2).trans rfl; have hcz3_3 : w2.cell? ⟨gb120, 3, none⟩ = some (.int .u64 a0_3) := (blk_cell BK120.out 3).trans rfl; have hcz3_4 : w2.cell? ⟨gb120, 4, none⟩ = some (.slice A0_4 l0_4.length c0_4) := (blk_cell BK120.out 4).trans rfl; have hfz3_0 := blk_frozen BK120.out 0; have hfz3_1 := blk_frozen BK120.out 1; have hfz3_2 := blk_frozen BK120.out 2; have hfz3_3 := blk_frozen BK120.out 3; have hfz3_4 := blk_frozen BK120.out 4))
  go_loopg [3, 9] k (fun kq v3 v9 w' => ∃ (x3_1 : Int) (x9_1 : Int), v3 = .int .i64 x3_1 ∧ v9 = .int .i64 x9_1 ∧ Aside0 (upload_Total.l0 kq x3_1 l0_4 (l0_4.length : Int) x9_1 = some r) ∧ Aside0 (kq ≤ k) ∧ Aside0 (w'.heap[gb120]? = some (.cells #[.string a0_0, .string a0_1, .int .u64 a0_2, .int .u64 a0_3, (.slice A0_4 l0_4.length c0_4)] 36 (0, 0))) ∧ Aside0 (Below w.heap.size w w'))
  case atStart => exact ⟨(0), (0), (by first | rfl | (simp; done) | (simp [*]; done)), (by first | rfl | (simp; done) | (simp [*]; done)), H', ⟨Nat.le_refl _⟩, ⟨by (with_reducible repeat (first | refine blk_drewN ?_ _ | refine blk_drew ?_ | refine blk_alloc ?_ _)); exact BK120.out⟩, ⟨by repeat (first | (with_reducible first | exact HB.out | apply below_alloc | apply pw_below_drewN | apply below_drew1 | refine below_set ?_ GE120.out) | exact HB.out)⟩⟩
  case round =>
    clear H'
    try clear c2
    try clear p2
    try clear hcz3_0
    try clear hcz3_1
    try clear hcz3_2
    try clear hcz3_3
    try clear hcz3_4
    try clear hfz3_0
    try clear hfz3_1
    try clear hfz3_2
    try clear hfz3_3
    try clear hfz3_4
    obtain ⟨x3_1, x9_1, rfl, rfl, HA, HK1, BK120, HB⟩ := hrel
    cases gk with
    | zero => exact absurd HA.out (by simp [upload_Total.l0])
    | succ k1 =>
      have H := HA.out
      clear HA
      simp only [upload_Total.l0] at H
      by_cases c4 : x9_1 < (l0_4.length : Int)
      · rw [if_pos c4] at H
        have c4b0 : decide (x9_1 < (l0_4.length : Int)) = true := decide_eq_true c4
        clear c4
        by_cases c5 : 0 ≤ x9_1
        · rw [if_pos c5] at H
          have c5b0 : decide (0 ≤ x9_1) = true := decide_eq_true c5
          clear c5
          by_cases c6 : x9_1 < (l0_4.length : Int)
          · rw [if_pos c6] at H
            have c6b0 : decide (x9_1 < (l0_4.length : Int)) = true := decide_eq_true c6
            clear c6
            have H' := Aside0.mk H
            clear H
            have p121 : 0 ≤ (x9_1 : Int) := of_decide_eq_true (by first | (with_reducible assumption) | assumption)
            have q121 : x9_1 < (l0_4.length : Int) := of_decide_eq_true (by first | (with_reducible assumption) | assumption)
            obtain ⟨ad121, A121_1, c121_1, e121, hx121_0, hx121_1, hl121_1, hi121_1⟩ := at_T50 HR0_4.out x9_1 p121 q121
            cases e121
            replace hx121_0 := (HB.out.cell (World.block_lt_of_cell? w _ hx121_0)).trans hx121_0
            replace hx121_1 := (HB.out.cell (World.block_lt_of_cell? w _ hx121_1)).trans hx121_1
            have HR121_1 := Aside0.mk hi121_1
            have HC121_1 := Aside0.mk hl121_1
            clear hi121_1 hl121_1
            replace p121 := eq_true p121
            replace q121 := eq_true q121
            go_wp2_with (first | ((with_reducible refine gate_dst (N := 5) rfl ?_); refine box_event ?hg (N := 5) ?hd (cs := #[.int .i64 0, .slice none 0 0]) (t := 50) ?hr ?_; (case hd => rfl); (case hg => rfl); (case hr => first | (go_simp; done) | (go_simp; rfl)); intro gb122 hg w7 hbox hb; have n0_ := Aside0.mk (blk_below (g := gb120) (o := .cells #[.string a0_0, .string a0_1, .int .u64 a0_2, .int .u64 a0_3, .slice (some ad121) l0_4.length c0_4] 36 (0, 0)) (by (with_reducible repeat (first | refine blk_drewN ?_ _ | refine blk_drew ?_ | refine blk_alloc ?_ _)); exact BK120.out) hb); have n1_ := Aside0.mk (below_step (by repeat (first | (with_reducible first | exact HB.out | apply below_alloc | apply pw_below_drewN | apply below_drew1 | refine below_set ?_ GE120.out) | exact HB.out)) hb); have n2_ := Aside0.mk (hbox); have n3_ := Aside0.mk ((by rw [hg]; exact (below_size (by repeat (first | (with_reducible first | exact HB.out | apply below_alloc | apply pw_below_drewN | apply below_drew1 | refine below_set ?_ GE120.out) | exact HB.out))) : w.heap.size ≤ gb122)); have n4_ := Aside0.mk ((by rw [hg]; exact (below_size (by repeat (first | (with_reducible first | exact HB.out | apply below_alloc | apply pw_below_drewN | apply below_drew1 | refine below_set ?_ GE120.out) | exact HB.out))) : w.heap.size ≤ gb122)); have n5_ := Aside0.mk ((by rw [hg]; exact Nat.ne_of_lt (blk_lt (g := gb120) (o := .cells #[.string a0_0, .string a0_1, .int .u64 a0_2, .int .u64 a0_3, .slice (some ad121) l0_4.length c0_4] 36 (0, 0)) (by (with_reducible repeat (first | refine blk_drewN ?_ _ | refine blk_drew ?_ | refine blk_alloc ?_ _)); exact BK120.out)) : gb120 ≠ gb122)); have n6_ := Aside0.mk ((by rw [hg]; exact Nat.ne_of_gt (blk_lt (g := gb120) (o := .cells #[.string a0_0, .string a0_1, .int .u64 a0_2, .int .u64 a0_3, .slice (some ad121) l0_4.length c0_4] 36 (0, 0)) (by (with_reducible repeat (first | refine blk_drewN ?_ _ | refine blk_drew ?_ | refine blk_alloc ?_ _)); exact BK120.out)) : gb122 ≠ gb120)); clear BK120; clear HB; have BK120 := n0_; have HB := n1_; have BK122 := n2_; have GW122 := n3_; have GE122 := n4_; have NB120_122 := n5_; have NB122_120 := n6_; clear n0_ n1_ n2_ n3_ n4_ n5_ n6_; clear hb hbox hg; have hnb8 := NB122_120.out; have hnc8 := NB120_122.out; have hcz9_0 : w7.cell? ⟨gb122, 0, none⟩ = some (.int .i64 0) := (blk_cell BK122.out 0).trans rfl; have hcz9_1 : w7.cell? ⟨gb122, 1, none⟩ = some (.slice none 0 0) := (blk_cell BK122.out 1).trans rfl; have hfz9_0 := blk_frozen BK122.out 0; have hfz9_1 := blk_frozen BK122.out 1))
            go_roundg k1
            case measure => have := HK1.out; omega
            case rel => exact ⟨(wrap64 (x3_1 + (((rd_T50 l0_4 x9_1).f1).length : Int))), (wrap64 (x9_1 + 1)), (by first | rfl | (simp; done) | (simp [*]; done)), (by first | rfl | (simp; done) | (simp [*]; done)), H', ⟨by have := HK1.out; omega⟩, ⟨by (with_reducible repeat (first | refine blk_drewN ?_ _ | refine blk_drew ?_ | refine blk_alloc ?_ _)); refine blk_far ?_ NB120_122.out _; (with_reducible repeat (first | refine blk_drewN ?_ _ | refine blk_drew ?_ | refine blk_alloc ?_ _)); refine blk_far ?_ NB120_122.out _; (with_reducible repeat (first | refine blk_drewN ?_ _ | refine blk_drew ?_ | refine blk_alloc ?_ _)); exact BK120.out⟩, ⟨by repeat (first | (with_reducible first | exact HB.out | apply below_alloc | apply pw_below_drewN | apply below_drew1 | refine below_set ?_ GE120.out | refine below_set ?_ GE122.out) | exact HB.out)⟩⟩
          · rw [if_neg c6] at H
            exact absurd H (by simp)
        · rw [if_neg c5] at H
          exact absurd H (by simp)
      · rw [if_neg c4] at H
        have c4b0 : decide (x9_1 < (l0_4.length : Int)) = false := decide_eq_false c4
        clear c4
        obtain rfl := Option.some.inj H
        go_wp2
        go_ret
        exact ⟨by first | rfl | (simp [errW_none, errW_some] <;> rfl) | (simp [*, errW_none, errW_some] <;> rfl), by repeat (first | (with_reducible first | exact HB.out | apply below_alloc | apply pw_below_drewN | apply below_drew1 | refine below_set ?_ GE120.out) | exact HB.out)⟩

/-! ### slices_Clone_byte_byte: function 48 (its contract proved by hand) -/

def slices_Clone_byte_byte.f (l0 : List Int) : Option (List Int) := if l0.length < 4398046511104 then some l0 else none
attribute [local go_sem] Lib.run_eql_slice_nil
set_option maxHeartbeats 8000000 in
set_option maxRecDepth 100000 in
theorem slices_Clone_byte_byte.calls (A0 : Option Addr) (c0 : Nat) (l0 : List Int) (r : List Int) (w : World) (hr0 : Kd.C (Kd.int .u8) w A0 l0.length l0) (hc0 : l0.length ≤ c0) (h : slices_Clone_byte_byte.f l0 = some r) :
    Calls Try.prog 48 #[.slice A0 l0.length c0] w fun e w' => ∃ v0_ : Value, e = .returned v0_ ∧ Kd.R (Kd.int .u8) 5 w' w.heap.size (fun _ => True) v0_ r ∧ Below w.heap.size w w' := by
  unfold slices_Clone_byte_byte.f at h
  split at h
  case isFalse => cases h
  case isTrue hlim =>
  obtain rfl : l0 = r := Option.some.inj h
  have hu39 := Try.underlying39
  have HR := Aside0.mk hr0
  cases A0 with
  | none =>
    have h0 : l0 = [] := by
      cases l0 with
      | nil => rfl
      | cons x t => obtain ⟨ad, h, _⟩ := hr0.2.2 (by simp); cases h
    subst h0
    go_enter Try.func48, Try.ntmps48
    go_wp2
    go_ret
    exact ⟨_, rfl, Kd.R_nil _ _ _ _ _, Below.refl _ _⟩
  | some ad =>
    obtain ⟨n, hn⟩ : ∃ n, n = l0.length := ⟨_, rfl⟩
    clear hr0 h
    go_enter Try.func48, Try.ntmps48
    go_wp2_with (first
      | ((with_reducible refine gate_dst (N := 5) rfl ?_); refine Kd.R_lit (Kd.int .u8) _ 5 ?hg (N := 5) ?hd (xs := ([] : List Int)) (inner := []) (ok := fun _ => True) (okp := fun _ => True) ?hr (Reps.none _ _) (fun _ hk => hk) trivial (Below.refl _ _) (Nat.le_refl _) (by simp) ?_; (case hd => rfl); (case hg => rfl); (case hr => first | (go_simp; done) | (go_simp; rfl)); intro v1 w1 ho hb hg_ hnew_; have HO := Aside0.mk ho; have HB := Aside0.mk hb; clear ho hb hg_ hnew_)
      | ((with_reducible refine gate_builtin (b := .append) (xs := #[.tmp 5, .tmp 6]) rfl ?_); at_builtin; refine Kd.R_append_rows (Kd.int .u8) (w0 := w) w.heap.size rfl (.tmp 5) (.tmp 6) 39 5 (.int .u8 0) 1 rfl Try.underlying39 info5 rfl (by decide) (by omega) v1 [] l0 _ _ _ (fun _ => True) (fun _ => False) rfl rfl HO.out (Kd.C_below HR.out HB.out) (fun _ _ h => h) (fun _ h => h.elim) (fun _ _ => trivial) HB.out (below_size HB.out) (by simp; omega) ?_; intro v2 w2 ho2 hb2 hg2 hat2; have HO2 := Aside0.mk ho2; have HB2 := Aside0.mk hb2; clear ho2 hb2 hg2 hat2))
    go_ret
    exact ⟨_, rfl, by simpa using HO2.out, HB2.out⟩


/-! ### api_Part_62: function 62 (its contract proved by hand) -/

def api_Part_62.f (l0 : List S50) : Option (List S50) := if l0.length < 4000000000000 then some l0 else none
attribute [local go_sem] Lib.run_eql_slice_nil
set_option maxHeartbeats 8000000 in
set_option maxRecDepth 100000 in
theorem api_Part_62.calls (P0_ : Nat → Prop) (A0 : Option Addr) (c0 : Nat) (l0 : List S50) (r : List S50) (w : World) (hs0 : Kd.V k50 50 w w.heap.size (fun k_ => P0_ k_) (.slice A0 l0.length c0) l0) (h : api_Part_62.f l0 = some r) :
    Calls Try.prog 62 #[.slice A0 l0.length c0] w fun e w' => ∃ v0_ : Value, e = .returned v0_ ∧ Kd.N k50 50 w' w.heap.size (fun k_ => (P0_ k_ ∨ w.heap.size ≤ k_)) v0_ r ∧ Below w.heap.size w w' := by
  unfold api_Part_62.f at h
  split at h
  case isFalse => cases h
  case isTrue hlim =>
  obtain rfl : l0 = r := Option.some.inj h
  have hu34 := Try.underlying34
  obtain ⟨A, c, he, hc, hF⟩ := hs0
  obtain ⟨rfl, _, rfl⟩ := Value.slice.inj he
  clear he
  have HF := Aside0.mk hF
  cases A0 with
  | none =>
    have h0 : l0 = [] := by
      cases l0 with
      | nil => rfl
      | cons x t => obtain ⟨ad, h, _⟩ := (Kd.F_now hF).2.2 (by simp); cases h
    subst h0
    go_enter Try.func62, Try.ntmps62
    go_wp2
    go_ret
    exact ⟨_, rfl, Kd.N_nil _ _ _ _ _, Below.refl _ _⟩
  | some ad =>
    clear hF h
    go_enter Try.func62, Try.ntmps62
    go_wp2_with (first
      | ((with_reducible refine gate_dst (N := 5) rfl ?_); refine Kd.N_lit k50 _ 50 ?hg (N' := 5) ?hd (xs := ([] : List S50)) (inner := []) (ok := fun k_ => P0_ k_ ∨ w.heap.size ≤ k_) (okp := fun _ => False) ?hr (Reps.none _ _) (fun _ hk => hk.elim) (Or.inr (Nat.le_refl _)) (Below.refl _ _) (Nat.le_refl _) (by simp) ?_; (case hd => rfl); (case hg => rfl); (case hr => first | (go_simp; done) | (go_simp; rfl)); intro v1 w1 ho hb hg_ hnew_; have HO := Aside0.mk ho; have HB := Aside0.mk hb; have HN := Aside0.mk hnew_; clear ho hb hg_ hnew_)
      | ((with_reducible refine gate_builtin (b := .append) (xs := #[.tmp 5, .tmp 6]) rfl ?_); at_builtin; refine Kd.N_append_rows k50 (w0 := w) w.heap.size rfl (.tmp 5) (.tmp 6) 34 50 (.agg #[(.int .i64 0), (.slice none 0 0)]) 32 rfl Try.underlying34 info50 rfl (by decide) (by omega) v1 [] l0 _ _ _ (fun k_ => P0_ k_ ∨ w.heap.size ≤ k_) (fun k_ => P0_ k_ ∧ k_ < w.heap.size) rfl rfl HO.out (Kd.F_old HF.out HB.out) (fun k hk => ⟨.inl hk.1, fun e => by obtain ⟨b, h1, h2⟩ := HN.out; rw [h1] at e; injection e with e; have := hk.2; omega⟩) (fun k hk => .inr (Nat.le_trans (below_size HB.out) hk)) HB.out (below_size HB.out) (by simp; omega) ?_; intro v2 w2 ho2 hb2 hg2 hat2; have HO2 := Aside0.mk ho2; have HB2 := Aside0.mk hb2; clear ho2 hb2 hg2 hat2))
    go_ret
    exact ⟨_, rfl, by simpa using HO2.out, HB2.out⟩


/-! ### upload_Copy: function 47 (its contract proved by hand) -/
/-- What holds in Copy, at every world. -/
structure CpSt (w : World) (P : Nat → Prop) (g1 g2 : Nat) (a0 a1 : ByteArray) (a2 a3 : Int) (A : Option Addr) (c : Nat) (l : List S50) (wr : World) : Prop where
  b1 : wr.heap[g1]? = some (.cells #[.string a0, .string a1, .int .u64 a2, .int .u64 a3, .slice A l.length c] 36 (0, 0))
  b2 : wr.heap[g2]? = some (.cells #[.string (⟨#[]⟩ : ByteArray), .string (⟨#[]⟩ : ByteArray), .int .u64 0, .int .u64 0, .slice none 0 0] 36 (0, 0))
  n : Kd.N k50 50 wr w.heap.size (fun k => (P k ∨ w.heap.size ≤ k) ∧ k ≠ g1 ∧ k ≠ g2) (.slice A l.length c) l
  bl : Below w.heap.size w wr
theorem CpSt.below {w wr wr' : World} {P : Nat → Prop} {g1 g2 : Nat} {a0 a1 : ByteArray} {a2 a3 : Int} {A : Option Addr} {c : Nat} {l : List S50} (h : CpSt w P g1 g2 a0 a1 a2 a3 A c l wr) (hb : Below wr.heap.size wr wr') : CpSt w P g1 g2 a0 a1 a2 a3 A c l wr' :=
  ⟨blk_below h.b1 hb, blk_below h.b2 hb, Kd.N_below h.n hb, h.bl.trans (Below.mono hb h.bl.size)⟩
structure CpB (w : World) (P : Nat → Prop) (g1 g2 : Nat) (a0 a1 : ByteArray) (a2 a3 : Int) (A : Option Addr) (c : Nat) (l : List S50) (g3 : Nat) (x : S50) (A1 : Option Addr) (c1 g : Nat) (W : World) : Prop where
  st : CpSt w P g1 g2 a0 a1 a2 a3 A c l W
  b3 : W.heap[g3]? = some (.cells #[.int .i64 x.f0, .slice A1 x.f1.length c1] 50 (0, 0))
  f : Kd.F (Kd.int .u8) W (fun k => k ≠ g) A1 x.f1.length x.f1
theorem CpB.below {w W W' : World} {P : Nat → Prop} {g1 g2 g3 : Nat} {a0 a1 : ByteArray} {a2 a3 : Int} {A A1 : Option Addr} {c c1 g : Nat} {l : List S50} {x : S50} (h : CpB w P g1 g2 a0 a1 a2 a3 A c l g3 x A1 c1 g W) (hb : Below W.heap.size W W') : CpB w P g1 g2 a0 a1 a2 a3 A c l g3 x A1 c1 g W' :=
  ⟨h.st.below hb, blk_below h.b3 hb, Kd.F_below h.f hb⟩
theorem CpB.elem {w W : World} {P : Nat → Prop} {g1 g2 g3 : Nat} {a0 a1 : ByteArray} {a2 a3 : Int} {A1 : Option Addr} {c c1 g : Nat} {l : List S50} {x : S50} (h : CpB w P g1 g2 a0 a1 a2 a3 (some ⟨g, 0, none⟩) c l g3 x A1 c1 g W) (i : Nat) (hi : i < l.length) (hx : l.getD i z50 = x) :
    ∃ q, (∀ (j : Nat) u, [.int .i64 x.f0, q][j]? = some u → W.cell? ⟨g, i * 2 + j, none⟩ = some u) ∧ W.cell? ⟨g, i * 2 + 1, none⟩ = some q ∧ W.frozen? ⟨g, i * 2 + 1, none⟩ = false := by
  obtain ⟨cs, hcl, hFK, hcc, hfr⟩ := Kd.N_elem h.st.n z50 (i : Int) (by omega) (by omega)
  rw [Int.toNat_natCast] at hFK hcc hfr
  have hk50 : k50.sz = 2 := rfl
  rw [hk50] at hcc hfr
  obtain ⟨A1, c1, rfl, hl1, hF1⟩ := k50_openF hFK
  rw [hx] at hcc
  exact ⟨_, hcc, hcc 1 _ rfl, hfr 1⟩
theorem CpB.store {w W : World} {P : Nat → Prop} {g1 g2 g3 : Nat} {a0 a1 : ByteArray} {a2 a3 : Int} {A1 A6 : Option Addr} {c c1 c6 g i b6 : Nat} {l : List S50} {x : S50} {q : Value} (h : CpB w P g1 g2 a0 a1 a2 a3 (some ⟨g, 0, none⟩) c l g3 x A1 c1 g W) (hi : i < l.length) (hset : l.set i x = l)
    (hcc : ∀ (j : Nat) u, [.int .i64 x.f0, q][j]? = some u → W.cell? ⟨g, i * 2 + j, none⟩ = some u) (hR : (Kd.int .u8).R 5 W b6 (fun _ => True) (.slice A6 x.f1.length c6) x.f1) (h1 : g1 < b6) (h2 : g2 < b6) (hg : g < b6) (hw : w.heap.size ≤ b6) (hgw : w.heap.size ≤ g) (hg1 : g ≠ g1) (hg2 : g ≠ g2) (hg3 : g ≠ g3) :
    CpB w P g1 g2 a0 a1 a2 a3 (some ⟨g, 0, none⟩) c l g3 x A1 c1 g (W.setCell ⟨g, i * 2 + 1, none⟩ (.slice A6 x.f1.length c6)) := by
  have hT := Kd.R_tight rfl hR
  have hM : Kd.FK k50 W (fun k => some k = (Value.slice A6 x.f1.length c6).ownBlock) x [.int .i64 x.f0, .slice A6 x.f1.length c6] := k50_mkF W _ x (Kd.R_reads' hR).2.1 (Kd.R_F hT)
  have hs := Kd.N_seg h.st.n (i : Int) (by omega) (by omega) (c := [.int .i64 x.f0, q]) (seg := [.slice A6 x.f1.length c6]) (j := 1) (x' := x) (okp := fun k => some k = (Value.slice A6 x.f1.length c6).ownBlock) rfl (by rw [Int.toNat_natCast]; exact hcc) (show 1 + 1 ≤ 2 from Nat.le_refl _) hM (fun k hk => by
    have := Kd.R_base hR k hk.symm
    exact ⟨⟨.inr (by omega), by omega, by omega⟩, by omega⟩)
  have hn := hs.1
  rw [Int.toNat_natCast, hset] at hn
  exact ⟨⟨blk_far h.st.b1 hg1.symm _, blk_far h.st.b2 hg2.symm _, hn, h.st.bl.setCell (p := ⟨g, i * 2 + 1, none⟩) hgw _⟩, blk_far h.b3 hg3.symm _, Kd.F_far h.f (fun _ hk => hk) _⟩
set_option maxHeartbeats 8000000 in
set_option maxRecDepth 100000 in
theorem upload_Copy.calls (a0_0 : ByteArray) (a0_1 : ByteArray) (a0_2 : Int) (a0_3 : Int) (P0_4_ : Nat → Prop) (A0_4 : Option Addr) (c0_4 : Nat) (l : List S50) (w : World) (hs0_4 : Kd.V k50 50 w w.heap.size (fun k_ => P0_4_ k_) (.slice A0_4 l.length c0_4) l) (hlim : l.length < 4000000000000) (hlims : ∀ x ∈ l, x.f1.length < 4000000000000) :
    Calls Try.prog 47 #[.agg #[.string a0_0, .string a0_1, .int .u64 a0_2, .int .u64 a0_3, .slice A0_4 l.length c0_4]] w fun e w' => ∃ v4_ : Value, e = .returned (.agg #[.string a0_0, .string a0_1, .int .u64 a0_2, .int .u64 a0_3, v4_]) ∧ Kd.N k50 50 w' w.heap.size (fun k_ => P0_4_ k_ ∨ w.heap.size ≤ k_) v4_ l ∧ Below w.heap.size w w' := by
  have hu36 := Try.underlying36
  have hu50 := Try.underlying50
  have hu34 := Try.underlying34
  have HV := Aside0.mk hs0_4
  have HL := Aside0.mk hlims
  clear hs0_4 hlims
  go_enter Try.func47, Try.ntmps47
  go_upto_region 1 with (first
    | ((with_reducible refine gate_dst (N := 1) rfl ?_); refine box_event ?hg (N := 1) ?hd (cs := #[.string a0_0, .string a0_1, .int .u64 a0_2, .int .u64 a0_3, .slice A0_4 l.length c0_4]) (t := 36) ?hr ?_; (case hd => rfl); (case hg => rfl); (case hr => first | (go_simp; done) | (go_simp; rfl)); intro g1 hg1 w1 hbox1 hb1; have B1 := Aside0.mk hbox1; have HB1 := Aside0.mk hb1; have G1 := Aside0.mk hg1; clear hg1 hbox1 hb1)
    | ((with_reducible refine gate_dst (N := 2) rfl ?_); refine box_event ?hg (N := 2) ?hd (cs := #[.string (⟨#[]⟩ : ByteArray), .string (⟨#[]⟩ : ByteArray), .int .u64 0, .int .u64 0, .slice none 0 0]) (t := 36) ?hr ?_; (case hd => rfl); (case hg => rfl); (case hr => first | (go_simp; done) | (go_simp; rfl)); intro g2 hg2 w2 hbox2 hb2; have B2 := Aside0.mk hbox2; have HB2 := Aside0.mk hb2; have G2 := Aside0.mk hg2; clear hg2 hbox2 hb2))
  have hb12 : Below w.heap.size w w2 := HB1.out.trans (Below.mono HB2.out HB1.out.size)
  have g1e := G1.out
  have g2e := G2.out
  have s1 := HB1.out.size
  have g1s : g1 < w1.heap.size := (Array.getElem?_eq_some_iff.1 B1.out).1
  have g2s : g2 < w2.heap.size := (Array.getElem?_eq_some_iff.1 B2.out).1
  have s2 := HB2.out.size
  have b1 := Aside0.mk (blk_below B1.out HB2.out)
  have hsV := Aside0.mk (Kd.V_old HV.out hb12)
  have hcz : w2.cell? ⟨g1, 4, none⟩ = some (.slice A0_4 l.length c0_4) := (blk_cell b1.out 4).trans rfl
  have hf0 := blk_frozen b1.out 4
  have g1w : w.heap.size ≤ g1 := by omega
  have g2w : w.heap.size ≤ g2 := by omega
  have g12 : g1 ≠ g2 := by omega
  have g1l : g1 < w2.heap.size := by omega
  have g2l : g2 < w2.heap.size := by omega
  have hwl : w.heap.size ≤ w2.heap.size := by omega
  clear g1e g2e s1 g1s g2s s2 G1 G2
  have hlf : api_Part_62.f l = some l := by unfold api_Part_62.f; rw [if_pos hlim]
  go_upto_region 2 with (go_at_call 62; refine (api_Part_62.calls (fun k => P0_4_ k ∧ k < w.heap.size) A0_4 c0_4 l l w2 hsV.out hlf).mono ?_; rintro e w3 ⟨v, rfl, hN, hb3⟩; obtain ⟨A, c, rfl⟩ := Kd.N_slice hN; have N3 := Aside0.mk hN; have b3 := Aside0.mk hb3; have b13 := Aside0.mk (blk_below b1.out hb3); have b23 := Aside0.mk (blk_below B2.out hb3); have hcz3 : w3.cell? ⟨g1, 4, none⟩ = some (.slice A0_4 l.length c0_4) := (blk_cell b13.out 4).trans rfl; have hfz3 := blk_frozen b13.out 4; clear hN hb3)
  have hSt : CpSt w P0_4_ g1 g2 a0_0 a0_1 a0_2 a0_3 A c l (w3.setCell ⟨g1, 4, none⟩ (.slice A l.length c)) :=
    ⟨blk_put (cs := #[.string a0_0, .string a0_1, .int .u64 a0_2, .int .u64 a0_3, .slice A0_4 l.length c0_4]) b13.out 4 _ rfl, blk_far b23.out g12.symm _,
      Kd.N_mono (Kd.N_far (p := ⟨g1, 4, none⟩) (Kd.N_lower N3.out hwl) (fun k hk => by
        show k ≠ g1
        rcases hk with hk | hk
        · have := hk.2; omega
        · omega) _) (fun k hk => by
        rcases hk with hk | hk
        · have := hk.2
          exact ⟨.inl hk.1, by omega, by omega⟩
        · exact ⟨.inr (by omega), by omega, by omega⟩),
      (hb12.trans (Below.mono b3.out hwl)).setCell (p := ⟨g1, 4, none⟩) g1w _⟩
  generalize hW4 : w3.setCell ⟨g1, 4, none⟩ (.slice A l.length c) = W4 at hSt
  clear hW4 b1 b13 b23 N3 b3 hcz hf0 hcz3 hfz3 hsV hlf hb12 B1 HB1 B2 HB2 HV
  have hcz : W4.cell? ⟨g1, 4, none⟩ = some (.slice A l.length c) := (blk_cell hSt.b1 4).trans rfl
  have HS := Aside0.mk hSt
  clear hSt
  go_wp2
  go_loopg [12] l.length (fun kx s12 wr => ∃ i : Nat, s12 = .int .i64 i ∧ i + kx = l.length ∧ Aside0 (CpSt w P0_4_ g1 g2 a0_0 a0_1 a0_2 a0_3 A c l wr))
  case atStart => exact ⟨0, rfl, by omega, HS⟩
  case round =>
    clear HS hcz
    obtain ⟨i, rfl, hik, HS⟩ := hrel
    cases gk with
    | zero =>
      obtain rfl : i = l.length := by omega
      have hc10 : wr.cell? ⟨g1, 0, none⟩ = some (.string a0_0) := (blk_cell HS.out.b1 0).trans rfl
      have hc11 : wr.cell? ⟨g1, 1, none⟩ = some (.string a0_1) := (blk_cell HS.out.b1 1).trans rfl
      have hc12 : wr.cell? ⟨g1, 2, none⟩ = some (.int .u64 a0_2) := (blk_cell HS.out.b1 2).trans rfl
      have hc13 : wr.cell? ⟨g1, 3, none⟩ = some (.int .u64 a0_3) := (blk_cell HS.out.b1 3).trans rfl
      have hc14 : wr.cell? ⟨g1, 4, none⟩ = some (.slice A l.length c) := (blk_cell HS.out.b1 4).trans rfl
      have hc20 : wr.cell? ⟨g2, 0, none⟩ = some (.string (⟨#[]⟩ : ByteArray)) := (blk_cell HS.out.b2 0).trans rfl
      have hc21 : wr.cell? ⟨g2, 1, none⟩ = some (.string (⟨#[]⟩ : ByteArray)) := (blk_cell HS.out.b2 1).trans rfl
      have hc22 : wr.cell? ⟨g2, 2, none⟩ = some (.int .u64 0) := (blk_cell HS.out.b2 2).trans rfl
      have hc23 : wr.cell? ⟨g2, 3, none⟩ = some (.int .u64 0) := (blk_cell HS.out.b2 3).trans rfl
      have hc24 : wr.cell? ⟨g2, 4, none⟩ = some (.slice none 0 0) := (blk_cell HS.out.b2 4).trans rfl
      have hf20 := blk_frozen HS.out.b2 0
      have hf21 := blk_frozen HS.out.b2 1
      have hf22 := blk_frozen HS.out.b2 2
      have hf23 := blk_frozen HS.out.b2 3
      have hf24 := blk_frozen HS.out.b2 4
      go_wp2
      refine bodyPost_ret (results_single rfl (.cell g2 36 #[.string a0_0, .string a0_1, .int .u64 a0_2, .int .u64 a0_3, .slice A l.length c] (0, 0) _ rfl (blk_put (cs := #[.string a0_0, .string a0_1, .int .u64 a0_2, .int .u64 a0_3, .slice none 0 0]) (blk_put (cs := #[.string a0_0, .string a0_1, .int .u64 a0_2, .int .u64 0, .slice none 0 0]) (blk_put (cs := #[.string a0_0, .string a0_1, .int .u64 0, .int .u64 0, .slice none 0 0]) (blk_put (cs := #[.string a0_0, .string (⟨#[]⟩ : ByteArray), .int .u64 0, .int .u64 0, .slice none 0 0]) (blk_put HS.out.b2 0 _ rfl) 1 _ rfl) 2 _ rfl) 3 _ rfl) 4 _ rfl) Try.underlying36 rfl (by kernel_rfl) .nil)) rfl ?_
      refine ⟨_, rfl, ?_, ?_⟩
      · exact Kd.N_mono (Kd.N_far (p := ⟨g2, 4, none⟩) (Kd.N_far (p := ⟨g2, 3, none⟩) (Kd.N_far (p := ⟨g2, 2, none⟩) (Kd.N_far (p := ⟨g2, 1, none⟩) (Kd.N_far (p := ⟨g2, 0, none⟩) HS.out.n (fun _ hk => hk.2.2) _) (fun _ hk => hk.2.2) _) (fun _ hk => hk.2.2) _) (fun _ hk => hk.2.2) _) (fun _ hk => hk.2.2) _) (fun _ hk => hk.1)
      · exact ((((HS.out.bl.setCell (p := ⟨g2, 0, none⟩) g2w _).setCell (p := ⟨g2, 1, none⟩) g2w _).setCell (p := ⟨g2, 2, none⟩) g2w _).setCell (p := ⟨g2, 3, none⟩) g2w _).setCell (p := ⟨g2, 4, none⟩) g2w _
    | succ kx =>
      have hi : i < l.length := by omega
      obtain ⟨g, cap, hv, hgb, hgl, curg, hgc⟩ := Kd.N_form HS.out.n (by omega)
      obtain ⟨rfl, _, rfl⟩ := Value.slice.inj hv
      clear hv
      obtain ⟨cs, hcl, hFK, hcc, hfr⟩ := Kd.N_elem HS.out.n z50 (i : Int) (by omega) (by omega)
      rw [Int.toNat_natCast] at hFK hcc hfr
      obtain ⟨A1, c1, rfl, hl1, hF1⟩ := k50_openF hFK
      have hk50 : k50.sz = 2 := rfl
      rw [hk50] at hcc hfr
      have hc0 : wr.cell? ⟨g, i * 2, none⟩ = some (.int .i64 (l.getD i z50).f0) := hcc 0 _ rfl
      have hc1 : wr.cell? ⟨g, i * 2 + 1, none⟩ = some (.slice A1 (l.getD i z50).f1.length c1) := hcc 1 _ rfl
      clear hcc hFK hcl
      obtain ⟨x, hx⟩ : ∃ x, x = l.getD i z50 := ⟨_, rfl⟩
      rw [← hx] at hc0 hc1 hl1 hF1
      have hxl : l[i]? = some x := by rw [hx, List.getD_eq_getElem?_getD, List.getElem?_eq_getElem hi]; rfl
      have hset : Aside0 (l.set i x = l) := .mk (by
        apply List.ext_getElem?
        intro j
        by_cases hj : i = j
        · subst hj
          rw [List.getElem?_set_self hi, hxl]
        · rw [List.getElem?_set_ne hj])
      have hxm := HL.out x (List.mem_of_getElem? hxl)
      have hcf : slices_Clone_byte_byte.f x.f1 = some x.f1 := by unfold slices_Clone_byte_byte.f; rw [if_pos (by omega)]
      have HCF := Aside0.mk hcf
      have HX := Aside0.mk hx.symm
      have HF := Aside0.mk hF1
      clear hx hxl hcf hF1
      have hgn1 : g ≠ g1 := fun e => by
        subst e
        rw [HS.out.b1] at hgc
        simp at hgc
      have hgn2 : g ≠ g2 := fun e => by
        subst e
        rw [HS.out.b2] at hgc
        simp at hgc
      clear hgc
      have g1v := blk_lt HS.out.b1
      have g2v := blk_lt HS.out.b2
      go_upto_region 5 with fail
      have hBW : Below wr.heap.size wr (wr.alloc (.cells #[.int .i64 x.f0, .slice A1 x.f1.length c1] 50)) :=
        below_alloc (Below.refl _ _) _
      have hB : CpB w P0_4_ g1 g2 a0_0 a0_1 a0_2 a0_3 (some ⟨g, 0, none⟩) c l wr.heap.size x A1 c1 g (wr.alloc (.cells #[.int .i64 x.f0, .slice A1 x.f1.length c1] 50)) :=
        ⟨HS.out.below hBW, blk_new wr _, Kd.F_mono (Kd.F_below HF.out hBW) (fun _ hk => hk.2)⟩
      have hVs : wr.heap.size < (wr.alloc (.cells #[.int .i64 x.f0, .slice A1 x.f1.length c1] 50)).heap.size := blk_lt hB.b3
      clear hBW hc0 hc1 hfr HF HS
      generalize (wr.alloc (.cells #[.int .i64 x.f0, .slice A1 x.f1.length c1] 50)) = V at hB hVs ⊢
      generalize wr.heap.size = g3 at hB hVs hgl g1v g2v ⊢
      have hS : V.cell? ⟨g1, 4, none⟩ = some (.slice (some ⟨g, 0, none⟩) l.length c) ∧ V.cell? ⟨g3, 1, none⟩ = some (.slice A1 x.f1.length c1) ∧ CpB w P0_4_ g1 g2 a0_0 a0_1 a0_2 a0_3 (some ⟨g, 0, none⟩) c l g3 x A1 c1 g V :=
        ⟨(blk_cell hB.st.b1 4).trans rfl, (blk_cell hB.b3 1).trans rfl, hB⟩
      have kB : ∀ W W', Below W.heap.size W W' → (W.cell? ⟨g1, 4, none⟩ = some (.slice (some ⟨g, 0, none⟩) l.length c) ∧ W.cell? ⟨g3, 1, none⟩ = some (.slice A1 x.f1.length c1) ∧ CpB w P0_4_ g1 g2 a0_0 a0_1 a0_2 a0_3 (some ⟨g, 0, none⟩) c l g3 x A1 c1 g W) →
          (W'.cell? ⟨g1, 4, none⟩ = some (.slice (some ⟨g, 0, none⟩) l.length c) ∧ W'.cell? ⟨g3, 1, none⟩ = some (.slice A1 x.f1.length c1) ∧ CpB w P0_4_ g1 g2 a0_0 a0_1 a0_2 a0_3 (some ⟨g, 0, none⟩) c l g3 x A1 c1 g W') := fun W W' hb h =>
        have h2 := h.2.2.below hb
        ⟨(blk_cell h2.st.b1 4).trans rfl, (blk_cell h2.b3 1).trans rfl, h2⟩
      have kD : ∀ W : World, (W.cell? ⟨g1, 4, none⟩ = some (.slice (some ⟨g, 0, none⟩) l.length c) ∧ W.cell? ⟨g3, 1, none⟩ = some (.slice A1 x.f1.length c1) ∧ CpB w P0_4_ g1 g2 a0_0 a0_1 a0_2 a0_3 (some ⟨g, 0, none⟩) c l g3 x A1 c1 g W) →
          (W.drew.cell? ⟨g1, 4, none⟩ = some (.slice (some ⟨g, 0, none⟩) l.length c) ∧ W.drew.cell? ⟨g3, 1, none⟩ = some (.slice A1 x.f1.length c1) ∧ CpB w P0_4_ g1 g2 a0_0 a0_1 a0_2 a0_3 (some ⟨g, 0, none⟩) c l g3 x A1 c1 g W.drew) := fun W h => kB W W.drew (below_drew1 (Below.refl _ _)) h
      have kC : ∀ W : World, (W.cell? ⟨g1, 4, none⟩ = some (.slice (some ⟨g, 0, none⟩) l.length c) ∧ W.cell? ⟨g3, 1, none⟩ = some (.slice A1 x.f1.length c1) ∧ CpB w P0_4_ g1 g2 a0_0 a0_1 a0_2 a0_3 (some ⟨g, 0, none⟩) c l g3 x A1 c1 g W) → Kd.C (Kd.int .u8) W A1 x.f1.length x.f1 := fun W h => Kd.F_now h.2.2.f
      have kE : ∀ W : World, (W.cell? ⟨g1, 4, none⟩ = some (.slice (some ⟨g, 0, none⟩) l.length c) ∧ W.cell? ⟨g3, 1, none⟩ = some (.slice A1 x.f1.length c1) ∧ CpB w P0_4_ g1 g2 a0_0 a0_1 a0_2 a0_3 (some ⟨g, 0, none⟩) c l g3 x A1 c1 g W) →
          ∃ q, Aside0 (∀ (j : Nat) u, [.int .i64 x.f0, q][j]? = some u → W.cell? ⟨g, i * 2 + j, none⟩ = some u) ∧ W.cell? ⟨g, i * 2 + 1, none⟩ = some q ∧ W.frozen? ⟨g, i * 2 + 1, none⟩ = false := fun W h => by
        obtain ⟨q, h1, h2, h3⟩ := h.2.2.elem i hi HX.out
        exact ⟨q, .mk h1, h2, h3⟩
      have kS : ∀ (W : World) (q : Value) (v6 : Value), (∃ A6 c6, v6 = .slice A6 x.f1.length c6) → (W.cell? ⟨g1, 4, none⟩ = some (.slice (some ⟨g, 0, none⟩) l.length c) ∧ W.cell? ⟨g3, 1, none⟩ = some (.slice A1 x.f1.length c1) ∧ CpB w P0_4_ g1 g2 a0_0 a0_1 a0_2 a0_3 (some ⟨g, 0, none⟩) c l g3 x A1 c1 g W) → (∀ (j : Nat) u, [.int .i64 x.f0, q][j]? = some u → W.cell? ⟨g, i * 2 + j, none⟩ = some u) → (Kd.int .u8).R 5 W V.heap.size (fun _ => True) v6 x.f1 → ((W.setCell ⟨g, i * 2 + 1, none⟩ v6).cell? ⟨g1, 4, none⟩ = some (.slice (some ⟨g, 0, none⟩) l.length c) ∧ (W.setCell ⟨g, i * 2 + 1, none⟩ v6).cell? ⟨g3, 1, none⟩ = some (.slice A1 x.f1.length c1) ∧ CpB w P0_4_ g1 g2 a0_0 a0_1 a0_2 a0_3 (some ⟨g, 0, none⟩) c l g3 x A1 c1 g (W.setCell ⟨g, i * 2 + 1, none⟩ v6)) := fun W q v6 ⟨A6, c6, e6⟩ h hcc hR => by
        subst e6
        have h2 := h.2.2.store hi hset.out hcc hR (by omega) (by omega) (by omega) (by have := h.2.2.st.bl.size; omega) hgb hgn1 hgn2 (by omega)
        exact ⟨(blk_cell h2.st.b1 4).trans rfl, (blk_cell h2.b3 1).trans rfl, h2⟩
      clear hB
      go_region_held3 (fun w' => w'.cell? ⟨g1, 4, none⟩ = some (.slice (some ⟨g, 0, none⟩) l.length c) ∧ w'.cell? ⟨g3, 1, none⟩ = some (.slice A1 x.f1.length c1) ∧ CpB w P0_4_ g1 g2 a0_0 a0_1 a0_2 a0_3 (some ⟨g, 0, none⟩) c l g3 x A1 c1 g w')
        (first | assumption | exact kD _ (by assumption))
        (first | (go_at_call 48; refine (slices_Clone_byte_byte.calls A1 c1 x.f1 x.f1 _ (kC _ (by assumption)) hl1 HCF.out).mono ?_; rintro e w6 ⟨v6, rfl, ho6, hb6⟩; have hS6 := kB _ _ hb6 (by assumption); obtain ⟨A6, c6, rfl⟩ := Kd.R_slice ho6; have HO6 := Aside0.mk ho6; have HB6 := Aside0.mk hb6; obtain ⟨q6, hEl6, hcx6, hfx6⟩ := kE _ hS6; have hS7 := kS _ _ _ ⟨_, _, rfl⟩ hS6 hEl6.out (Kd.R_lower ho6 (by simp)); clear ho6 hb6))
      all_goals
        go_wp2
        go_roundg kx
        case measure => omega
        case rel => exact ⟨i + 1, by push_cast; rfl, by omega, .mk hS7.2.2.st⟩



-- NOT PRINTED: function 63 (api_Part_63)

-- NOT PRINTED: function 89 (api_Part_89)

-- NOT PRINTED: function 73 (api_Part_73)

-- NOT PRINTED: function 64 (api_Part_64)

end Go.Proofs.Ytdfkinkihkgdbaa.PUp
