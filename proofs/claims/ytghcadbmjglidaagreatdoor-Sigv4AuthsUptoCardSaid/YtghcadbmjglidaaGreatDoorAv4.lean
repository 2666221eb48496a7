/- Texts of this proof, laid together: PSgx3, PSgx4, PSgx5, PSgx6. -/
import Derived.Test.YtghcadbmjglidaaGreatDoorAv3
set_option linter.unusedVariables false
set_option linter.unusedSimpArgs false
section
namespace Go.Proofs.YtghcadbmjglidaaGreatDoor.PSg
open Go.RowKit Go.Proofs.YtghcadbmjglidaaGreatDoorW.PrintWords Go.Proofs.YtghcadbmjglidaaGreatDoorW.PrintLast Go.Proofs.YtghcadbmjglidaaGreatDoorW.PrintMore
attribute [local go_sem] max2_int min2_int max_two min_two max_three min_three max_four min_four
set_option linter.unusedVariables false
set_option linter.unusedSimpArgs false
def clock_Civil.f (a0 : Int) : Option (Int × Int × Int) := some (Clk.civ a0)
set_option maxRecDepth 100000 in
set_option maxHeartbeats 4000000 in
theorem clock_Civil.calls (a0 : Int) (r1 : Int) (r2 : Int) (r3 : Int) (w : World) (h : clock_Civil.f a0 = some (r1, r2, r3)) :
  Calls Tryz.prog 55 #[.int .i64 a0] w fun e w' => e = .returned (.tuple #[.int .i64 r1, .int .i64 r2, .int .i64 r3]) ∧ Below w.heap.size w w' := by
 have e := Option.some.inj h
 have := clk_civil a0 w
 rwa [e] at this
def clock_pairs.f (l0 : List Int) : Option (ByteArray) := if l0.length ≤ 100 ∧ ∀ x ∈ l0, 0 ≤ x ∧ x < 100 then some (ba (l0.flatMap prTwo)) else none
set_option maxRecDepth 100000 in
set_option maxHeartbeats 4000000 in
theorem clock_pairs.calls (A0 : Option Addr) (c0 : Nat) (l0 : List Int) (r : ByteArray) (w : World) (hr0 : Kd.C (Kd.int .i64) w A0 l0.length l0) (hc0 : l0.length ≤ c0) (h : clock_pairs.f l0 = some r) :
  Calls Tryz.prog 56 #[.slice A0 l0.length c0] w fun e w' => e = .returned (.string r) ∧ Below w.heap.size w w' := by
 unfold clock_pairs.f at h
 split at h
 case isFalse => cases h
 case isTrue hl =>
 obtain rfl := Option.some.inj h
 exact clk_pairs l0 (by omega) hl.2 A0 c0 w (Kd.reads_of_C (d := 0) hr0).2.2
def clock_Show.f (a0 : Int) : Option (ByteArray × Int) := if a0 > 253402300799 then (some ((⟨#[]⟩ : ByteArray), 6)) else ((clock_Civil.f (wrap64 (IntKind.u64.wrap (Int.tdiv a0 86400)))).bind fun bt117 => ((clock_pairs.f (([wrap64 (Int.tdiv bt117.1 100), Int.tmod bt117.1 100, bt117.2.1, bt117.2.2] : List Int))).bind fun t123 => (if t123.size + 1 ≤ 9223372036854775807 then ((clock_pairs.f (([wrap64 (Int.tdiv (wrap64 (Int.tmod a0 86400)) 3600), Int.tmod (wrap64 (Int.tdiv (wrap64 (Int.tmod a0 86400)) 60)) 60, Int.tmod (wrap64 (Int.tmod a0 86400)) 60] : List Int))).bind fun t127 => (if (t123 ++ (⟨#[84]⟩ : ByteArray)).size + t127.size ≤ 9223372036854775807 then (if ((t123 ++ (⟨#[84]⟩ : ByteArray)) ++ t127).size + 1 ≤ 9223372036854775807 then (some (((t123 ++ (⟨#[84]⟩ : ByteArray)) ++ t127) ++ (⟨#[90]⟩ : ByteArray), 0)) else (none)) else (none))) else (none))))
set_option maxHeartbeats 8000000 in
set_option maxRecDepth 100000 in
theorem clock_Show.calls (a0 : Int) (r1 : ByteArray) (r2 : Int) (w : World) (h : clock_Show.f a0 = some (r1, r2)) :
  Calls Tryz.prog 29 #[.int .u64 a0] w fun e w' => e = .returned (.tuple #[.string r1, .int .i64 r2]) ∧ Below w.heap.size w w' := by
 have HB := Aside0.mk (Below.refl w.heap.size w)
 have H : (if a0 > 253402300799 then (some ((⟨#[]⟩ : ByteArray), 6)) else ((clock_Civil.f (wrap64 (IntKind.u64.wrap (Int.tdiv a0 86400)))).bind fun bt117 => ((clock_pairs.f (([wrap64 (Int.tdiv bt117.1 100), Int.tmod bt117.1 100, bt117.2.1, bt117.2.2] : List Int))).bind fun t123 => (if t123.size + 1 ≤ 9223372036854775807 then ((clock_pairs.f (([wrap64 (Int.tdiv (wrap64 (Int.tmod a0 86400)) 3600), Int.tmod (wrap64 (Int.tdiv (wrap64 (Int.tmod a0 86400)) 60)) 60, Int.tmod (wrap64 (Int.tmod a0 86400)) 60] : List Int))).bind fun t127 => (if (t123 ++ (⟨#[84]⟩ : ByteArray)).size + t127.size ≤ 9223372036854775807 then (if ((t123 ++ (⟨#[84]⟩ : ByteArray)) ++ t127).size + 1 ≤ 9223372036854775807 then (some (((t123 ++ (⟨#[84]⟩ : ByteArray)) ++ t127) ++ (⟨#[90]⟩ : ByteArray), 0)) else (none)) else (none))) else (none))))) = some (r1, r2) := h
 clear h
 by_cases c2 : a0 > 253402300799
 ·rw [if_pos c2] at H
  have c2b0 : decide (253402300799 < a0) = true := decide_eq_true c2
  clear c2
  simp only [Option.some.injEq, Prod.mk.injEq] at H
  obtain ⟨rfl, rfl⟩ := H
  go_enter Tryz.func29, Tryz.ntmps29
  go_wp2
  go_ret2
  exact ⟨by first | rfl | (simp [errW_none, errW_some] <;> rfl) | (simp [*, errW_none, errW_some] <;> rfl), hb0_⟩
 rw [if_neg c2] at H
 have c2b0 : decide (253402300799 < a0) = false := decide_eq_false c2
 clear c2
 replace H := Option.bind_eq_some_iff.mp H
 obtain ⟨⟨t117, t118, t119⟩, A30, H⟩ := H
 replace H : ((clock_pairs.f (([wrap64 (Int.tdiv t117 100), Int.tmod t117 100, t118, t119] : List Int))).bind fun t123 => (if t123.size + 1 ≤ 9223372036854775807 then ((clock_pairs.f (([wrap64 (Int.tdiv (wrap64 (Int.tmod a0 86400)) 3600), Int.tmod (wrap64 (Int.tdiv (wrap64 (Int.tmod a0 86400)) 60)) 60, Int.tmod (wrap64 (Int.tmod a0 86400)) 60] : List Int))).bind fun t127 => (if (t123 ++ (⟨#[84]⟩ : ByteArray)).size + t127.size ≤ 9223372036854775807 then (if ((t123 ++ (⟨#[84]⟩ : ByteArray)) ++ t127).size + 1 ≤ 9223372036854775807 then (some (((t123 ++ (⟨#[84]⟩ : ByteArray)) ++ t127) ++ (⟨#[90]⟩ : ByteArray), 0)) else (none)) else (none))) else (none))) = some (r1, r2) := H
 have A3 := Aside0.mk A30
 clear A30
 obtain ⟨y120, hy120⟩ : ∃ y_ : List Int, y_ = (([wrap64 (Int.tdiv t117 100), Int.tmod t117 100, t118, t119] : List Int)) := ⟨_, rfl⟩
 replace H : ((clock_pairs.f y120).bind fun t123 => (if t123.size + 1 ≤ 9223372036854775807 then ((clock_pairs.f (([wrap64 (Int.tdiv (wrap64 (Int.tmod a0 86400)) 3600), Int.tmod (wrap64 (Int.tdiv (wrap64 (Int.tmod a0 86400)) 60)) 60, Int.tmod (wrap64 (Int.tmod a0 86400)) 60] : List Int))).bind fun t127 => (if (t123 ++ (⟨#[84]⟩ : ByteArray)).size + t127.size ≤ 9223372036854775807 then (if ((t123 ++ (⟨#[84]⟩ : ByteArray)) ++ t127).size + 1 ≤ 9223372036854775807 then (some (((t123 ++ (⟨#[84]⟩ : ByteArray)) ++ t127) ++ (⟨#[90]⟩ : ByteArray), 0)) else (none)) else (none))) else (none))) = some (r1, r2) := by first | (rw [hy120]; with_reducible exact H) | (have H2_ := (Option.bind_some _ _).symm.trans H; rw [hy120]; with_reducible exact H2_) | (have H2_ := (Option.bind_some _ _).symm.trans H; with_reducible exact H2_) | with_reducible exact H | (rw [hy120]; exact H) | exact H
 have Ny120 := Aside0.mk hy120
 clear hy120
 replace H := Option.bind_eq_some_iff.mp H
 obtain ⟨t123, A40, H⟩ := H
 replace H : (if t123.size + 1 ≤ 9223372036854775807 then ((clock_pairs.f (([wrap64 (Int.tdiv (wrap64 (Int.tmod a0 86400)) 3600), Int.tmod (wrap64 (Int.tdiv (wrap64 (Int.tmod a0 86400)) 60)) 60, Int.tmod (wrap64 (Int.tmod a0 86400)) 60] : List Int))).bind fun t127 => (if (t123 ++ (⟨#[84]⟩ : ByteArray)).size + t127.size ≤ 9223372036854775807 then (if ((t123 ++ (⟨#[84]⟩ : ByteArray)) ++ t127).size + 1 ≤ 9223372036854775807 then (some (((t123 ++ (⟨#[84]⟩ : ByteArray)) ++ t127) ++ (⟨#[90]⟩ : ByteArray), 0)) else (none)) else (none))) else (none)) = some (r1, r2) := H
 have A4 := Aside0.mk A40
 clear A40
 by_cases c5 : t123.size + 1 ≤ 9223372036854775807
 rotate_left
 ·rw [if_neg c5] at H
  exact absurd H (by simp)
 rw [if_pos c5] at H
 have c5b0 := eq_true c5
 have c5b1 : decide (t123.size + 1 ≤ 9223372036854775807) = true := decide_eq_true c5
 try have c5b2 : (9223372036854775807 < t123.size + 1) = False := eq_false (Nat.not_lt.2 c5)
 obtain ⟨y124, hy124⟩ : ∃ y_ : List Int, y_ = (([wrap64 (Int.tdiv (wrap64 (Int.tmod a0 86400)) 3600), Int.tmod (wrap64 (Int.tdiv (wrap64 (Int.tmod a0 86400)) 60)) 60, Int.tmod (wrap64 (Int.tmod a0 86400)) 60] : List Int)) := ⟨_, rfl⟩
 replace H : ((clock_pairs.f y124).bind fun t127 => (if (t123 ++ (⟨#[84]⟩ : ByteArray)).size + t127.size ≤ 9223372036854775807 then (if ((t123 ++ (⟨#[84]⟩ : ByteArray)) ++ t127).size + 1 ≤ 9223372036854775807 then (some (((t123 ++ (⟨#[84]⟩ : ByteArray)) ++ t127) ++ (⟨#[90]⟩ : ByteArray), 0)) else (none)) else (none))) = some (r1, r2) := by first | (rw [hy124]; with_reducible exact H) | (have H2_ := (Option.bind_some _ _).symm.trans H; rw [hy124]; with_reducible exact H2_) | (have H2_ := (Option.bind_some _ _).symm.trans H; with_reducible exact H2_) | with_reducible exact H | (rw [hy124]; exact H) | exact H
 have Ny124 := Aside0.mk hy124
 clear hy124
 replace H := Option.bind_eq_some_iff.mp H
 obtain ⟨t127, A60, H⟩ := H
 replace H : (if (t123 ++ (⟨#[84]⟩ : ByteArray)).size + t127.size ≤ 9223372036854775807 then (if ((t123 ++ (⟨#[84]⟩ : ByteArray)) ++ t127).size + 1 ≤ 9223372036854775807 then (some (((t123 ++ (⟨#[84]⟩ : ByteArray)) ++ t127) ++ (⟨#[90]⟩ : ByteArray), 0)) else (none)) else (none)) = some (r1, r2) := H
 have A6 := Aside0.mk A60
 clear A60
 by_cases c7 : (t123 ++ (⟨#[84]⟩ : ByteArray)).size + t127.size ≤ 9223372036854775807
 rotate_left
 ·rw [if_neg c7] at H
  exact absurd H (by simp)
 rw [if_pos c7] at H
 have c7b0 := eq_true c7
 have c7b1 : decide ((t123 ++ (⟨#[84]⟩ : ByteArray)).size + t127.size ≤ 9223372036854775807) = true := decide_eq_true c7
 try have c7b2 : (9223372036854775807 < (t123 ++ (⟨#[84]⟩ : ByteArray)).size + t127.size) = False := eq_false (Nat.not_lt.2 c7)
 have c7b3 : (9223372036854775807 < t123.size + 1 + t127.size) = False := eq_false (Nat.not_lt.2 (by have h_ := c7; simp only [ByteArray.size_append] at h_; exact h_))
 by_cases c8 : ((t123 ++ (⟨#[84]⟩ : ByteArray)) ++ t127).size + 1 ≤ 9223372036854775807
 rotate_left
 ·rw [if_neg c8] at H
  exact absurd H (by simp)
 rw [if_pos c8] at H
 have c8b0 := eq_true c8
 have c8b1 : decide (((t123 ++ (⟨#[84]⟩ : ByteArray)) ++ t127).size + 1 ≤ 9223372036854775807) = true := decide_eq_true c8
 try have c8b2 : (9223372036854775807 < ((t123 ++ (⟨#[84]⟩ : ByteArray)) ++ t127).size + 1) = False := eq_false (Nat.not_lt.2 c8)
 have c8b3 : (9223372036854775807 < t123.size + 1 + t127.size + 1) = False := eq_false (Nat.not_lt.2 (by have h_ := c8; simp only [ByteArray.size_append] at h_; exact h_))
 simp only [Option.some.injEq, Prod.mk.injEq] at H
 obtain ⟨rfl, rfl⟩ := H
 go_enter Tryz.func29, Tryz.ntmps29
 go_wp2_with (first | ((with_reducible refine gate_callee (f := 55) rfl ?_); refine goesL_ (some 14) rfl rfl Tryz.func55 (by kernel_rfl) rfl #[.int .i64 (wrap64 (IntKind.u64.wrap (Int.tdiv a0 86400)))] rfl (by (try simp only [List.map_toArray, List.map_cons, List.map_nil]); first | done | rfl | (simp only [List.length_drop, List.length_take]; rfl)) ?_; (with_reducible refine (clock_Civil.calls (wrap64 (IntKind.u64.wrap (Int.tdiv a0 86400))) t117 t118 t119 _ A3.out).mono ?_); rintro e w9 ⟨rfl, hb⟩; refine ⟨_, rfl, ?_⟩; have n0_ := Aside0.mk (below_step hb0_ hb); clear HB; have HB := n0_; clear n0_; (try clear hb); (try clear hb2); (try clear hk); (try clear hi)) | ((with_reducible refine gate_dst (N := 27) rfl ?_); refine Kd.R_lit (Kd.int .i64) _ 3 ?hg (N := 27) ?hd (xs := ([wrap64 (Int.tdiv t117 100), Int.tmod t117 100, t118, t119] : List Int)) (inner := [.int .i64 (wrap64 (Int.tdiv t117 100)), .int .i64 (Int.tmod t117 100), .int .i64 t118, .int .i64 t119]) (ok := fun _ => True) (okp := fun _ => True) ?hr ?hp (fun _ hk => hk) trivial (Below.refl _ _) (Nat.le_refl _) (by simp) ?_; (case hd => rfl); (case hg => rfl); (case hr => first | (go_simp; done) | (go_simp; rfl)); (case hp => exact (Reps.one (show Kd.M (Kd.int .i64) _ _ _ (wrap64 (Int.tdiv t117 100)) [.int .i64 (wrap64 (Int.tdiv t117 100))] from rfl) (Reps.one (show Kd.M (Kd.int .i64) _ _ _ (Int.tmod t117 100) [.int .i64 (Int.tmod t117 100)] from rfl) (Reps.one (show Kd.M (Kd.int .i64) _ _ _ t118 [.int .i64 t118] from rfl) (Reps.one (show Kd.M (Kd.int .i64) _ _ _ t119 [.int .i64 t119] from rfl) (Reps.none _ _)))))); intro v121 w10 ho11 hb hg_ hnew_; clear hg_ hnew_; (first | rw [← Ny120.out] at ho11 | (simp only [Int.reduceToNat] at ho11; rw [← Ny120.out] at ho11)); have n0_ := Aside0.mk (Kd.R_lower ho11 (below_size hb0_)); have n1_ := Aside0.mk (below_step hb0_ hb); clear HB; have HO122 := n0_; have HB := n1_; clear n0_ n1_; clear hb ho11; obtain ⟨Ao12, co12, eo12⟩ := Kd.R_slice HO122.out; subst eo12) | ((with_reducible refine gate_callee (f := 56) rfl ?_); refine goesL_ (some 28) rfl rfl Tryz.func56 (by kernel_rfl) rfl #[.slice Ao12 y120.length co12] rfl (by (try simp only [List.map_toArray, List.map_cons, List.map_nil]); first | done | rfl | (simp only [List.length_drop, List.length_take]; rfl)) ?_; (with_reducible refine (clock_pairs.calls _ _ y120 t123 _ ?side1 ?side2 A4.out).mono ?_); (case side1 => repeat (first | exact (Kd.R_reads' HO122.out).2.2 | (with_reducible refine Kd.C_alloc ?_ _) | (with_reducible refine Kd.C_drewN ?_ _) | (with_reducible refine Kd.C_drew ?_))); (case side2 => exact (Kd.R_reads' HO122.out).2.1); rintro e w13 ⟨rfl, hb⟩; refine ⟨_, rfl, ?_⟩; have n0_ := Aside0.mk (Kd.R_below (by (with_reducible repeat (first | apply Kd.R_alloc | apply Kd.R_drewN | apply Kd.R_drew)); exact HO122.out) hb); have n1_ := Aside0.mk (below_step hb0_ hb); clear HO122; clear HB; have HO122 := n0_; have HB := n1_; clear n0_ n1_; (try clear hb); (try clear hb2); (try clear hk); (try clear hi)) | ((with_reducible refine gate_dst (N := 37) rfl ?_); refine Kd.R_lit (Kd.int .i64) _ 3 ?hg (N := 37) ?hd (xs := ([wrap64 (Int.tdiv (wrap64 (Int.tmod a0 86400)) 3600), Int.tmod (wrap64 (Int.tdiv (wrap64 (Int.tmod a0 86400)) 60)) 60, Int.tmod (wrap64 (Int.tmod a0 86400)) 60] : List Int)) (inner := [.int .i64 (wrap64 (Int.tdiv (wrap64 (Int.tmod a0 86400)) 3600)), .int .i64 (Int.tmod (wrap64 (Int.tdiv (wrap64 (Int.tmod a0 86400)) 60)) 60), .int .i64 (Int.tmod (wrap64 (Int.tmod a0 86400)) 60)]) (ok := fun _ => True) (okp := fun _ => True) ?hr ?hp (fun _ hk => hk) trivial (Below.refl _ _) (Nat.le_refl _) (by simp) ?_; (case hd => rfl); (case hg => rfl); (case hr => first | (go_simp; done) | (go_simp; rfl)); (case hp => exact (Reps.one (show Kd.M (Kd.int .i64) _ _ _ (wrap64 (Int.tdiv (wrap64 (Int.tmod a0 86400)) 3600)) [.int .i64 (wrap64 (Int.tdiv (wrap64 (Int.tmod a0 86400)) 3600))] from rfl) (Reps.one (show Kd.M (Kd.int .i64) _ _ _ (Int.tmod (wrap64 (Int.tdiv (wrap64 (Int.tmod a0 86400)) 60)) 60) [.int .i64 (Int.tmod (wrap64 (Int.tdiv (wrap64 (Int.tmod a0 86400)) 60)) 60)] from rfl) (Reps.one (show Kd.M (Kd.int .i64) _ _ _ (Int.tmod (wrap64 (Int.tmod a0 86400)) 60) [.int .i64 (Int.tmod (wrap64 (Int.tmod a0 86400)) 60)] from rfl) (Reps.none _ _))))); intro v125 w14 ho15 hb hg_ hnew_; clear hg_ hnew_; (first | rw [← Ny124.out] at ho15 | (simp only [Int.reduceToNat] at ho15; rw [← Ny124.out] at ho15)); have n0_ := Aside0.mk (Kd.R_elder' (by (with_reducible repeat (first | apply Kd.R_alloc | apply Kd.R_drewN | apply Kd.R_drew)); exact HO122.out) (Kd.R_base ho15) hb); have n1_ := Aside0.mk (Kd.R_lower (Kd.R_new' ho15 (Kd.R_lt (by (with_reducible repeat (first | apply Kd.R_alloc | apply Kd.R_drewN | apply Kd.R_drew)); exact HO122.out))) (below_size hb0_)); have n2_ := Aside0.mk (below_step hb0_ hb); clear HO122; clear HB; have HO122 := n0_; have HO126 := n1_; have HB := n2_; clear n0_ n1_ n2_; clear hb ho15; obtain ⟨Ao16, co16, eo16⟩ := Kd.R_slice HO126.out; subst eo16) | ((with_reducible refine gate_callee (f := 56) rfl ?_); refine goesL_ (some 38) rfl rfl Tryz.func56 (by kernel_rfl) rfl #[.slice Ao16 y124.length co16] rfl (by (try simp only [List.map_toArray, List.map_cons, List.map_nil]); first | done | rfl | (simp only [List.length_drop, List.length_take]; rfl)) ?_; (with_reducible refine (clock_pairs.calls _ _ y124 t127 _ ?side1 ?side2 A6.out).mono ?_); (case side1 => repeat (first | exact (Kd.R_reads' HO126.out).2.2 | (with_reducible refine Kd.C_alloc ?_ _) | (with_reducible refine Kd.C_drewN ?_ _) | (with_reducible refine Kd.C_drew ?_))); (case side2 => exact (Kd.R_reads' HO126.out).2.1); rintro e w17 ⟨rfl, hb⟩; refine ⟨_, rfl, ?_⟩; have n0_ := Aside0.mk (Kd.R_below (by (with_reducible repeat (first | apply Kd.R_alloc | apply Kd.R_drewN | apply Kd.R_drew)); exact HO122.out) hb); have n1_ := Aside0.mk (Kd.R_below (by (with_reducible repeat (first | apply Kd.R_alloc | apply Kd.R_drewN | apply Kd.R_drew)); exact HO126.out) hb); have n2_ := Aside0.mk (below_step hb0_ hb); clear HO122; clear HO126; clear HB; have HO122 := n0_; have HO126 := n1_; have HB := n2_; clear n0_ n1_ n2_; (try clear hb); (try clear hb2); (try clear hk); (try clear hi)))
 go_ret2
 exact ⟨by first | rfl | (simp [errW_none, errW_some] <;> rfl) | (simp [*, errW_none, errW_some] <;> rfl), hb0_⟩
set_option maxHeartbeats 4000000 in
set_option maxRecDepth 100000 in
theorem hdr_1 (a b nm : ByteArray) (B : Nat) (w : World) (hB : w.cell? ⟨B, 0, none⟩ = some (.string nm)) :
  Calls Tryz.prog 58 #[.agg #[.string a, .string b], .pointer (some ⟨B, 0, none⟩)] w fun e w' => e = .returned (.bool (a.toList == nm.toList)) ∧ Below w.heap.size w w' := by
 have huH := Tryz.underlying55
 have hlt : B < w.heap.size := World.block_lt_of_cell? w _ hB
 go_enter Tryz.func58, Tryz.ntmps58
 go_wp2
 go_ret
 exact ⟨rfl, below_alloc (Below.refl _ _) _⟩
def idxH (nm : ByteArray) : List S55 → Nat → Int
 | [], _ => -1
 | x :: t, i => if (x.f0.toList == nm.toList) = true then (i : Int) else idxH nm t (i + 1)
theorem idxH_cons (nm : ByteArray) (x : S55) (t : List S55) (i : Nat) : idxH nm (x :: t) i = if (x.f0.toList == nm.toList) = true then (i : Int) else idxH nm t (i + 1) := rfl
set_option maxHeartbeats 8000000 in
set_option maxRecDepth 100000 in
theorem index_hdr (A0 : Option Addr) (c0 : Nat) (l0 : List S55) (nm : ByteArray) (B : Nat) (w : World) (hr0 : Kd.C k55 w A0 l0.length l0) (hlim : l0.length < 1000000) (hB : w.cell? ⟨B, 0, none⟩ = some (.string nm)) :
  Calls Tryz.prog 57 #[.slice A0 l0.length c0, .func (.func 58) #[] #[.pointer (some ⟨B, 0, none⟩)]] w fun e w' => e = .returned (.int .i64 (idxH nm l0 0)) ∧ Below w.heap.size w w' := by
 have huL := Tryz.underlying42
 have huH := Tryz.underlying55
 have HR := Aside0.mk hr0
 clear hr0
 go_enter Tryz.func57, Tryz.ntmps57
 go_wp2
 go_loopg [8] l0.length (fun kx s8 wr => ∃ i : Nat, s8 = .int .i64 i ∧ i + kx = l0.length ∧ Aside0 (idxH nm l0 0 = idxH nm (l0.drop i) i) ∧ Aside0 (Below w.heap.size w wr))
 case atStart => exact ⟨0, rfl, by omega, .mk rfl, .mk (Below.refl _ _)⟩
 case round =>
  obtain ⟨i, rfl, hik, HI, HBl⟩ := hrel
  cases gk with
  | zero =>
   obtain rfl : i = l0.length := by omega
   have hd : decide ((l0.length : Int) < (l0.length : Int)) = false := decide_eq_false (by omega)
   go_wp2
   go_ret
   rw [HI.out, List.drop_length]
   exact ⟨rfl, HBl.out⟩
  | succ kx =>
   have hi : i < l0.length := by omega
   have hd : decide ((i : Int) < (l0.length : Int)) = true := decide_eq_true (by omega)
   obtain ⟨ad, hA, hc0, hc1⟩ := at_T55 (Kd.C_below HR.out HBl.out) (i : Int) (by omega) (by omega)
   subst hA
   simp only [Int.toNat_natCast] at hc0 hc1
   have hx : rd_T55 l0 (i : Int) = l0[i] := by unfold rd_T55; rw [Int.toNat_natCast, List.getD_eq_getElem?_getD, List.getElem?_eq_getElem hi]; rfl
   rw [hx] at hc0 hc1
   have hw : wrap64 ((i : Int) + 1) = ((i + 1 : Nat) : Int) := by unfold wrap64; omega
   have hBr : wr.cell? ⟨B, 0, none⟩ = some (.string nm) := (HBl.out.cell (World.block_lt_of_cell? w _ hB)).trans hB
   have hI2 := HI.out
   rw [List.drop_eq_getElem_cons hi, idxH_cons] at hI2
   cases hq : (l0[i].f0.toList == nm.toList) with
   | true =>
    rw [hq, if_pos rfl] at hI2
    have HI2 := Aside0.mk hI2
    clear hI2
    go_wp2_with (go_at_call 58; refine (hdr_1 _ _ nm B _ hBr).mono ?_; rintro e w2 ⟨rfl, hb2⟩; rw [hq]; have HB2 := Aside0.mk (HBl.out.trans (hb2.mono HBl.out.size)); clear hb2)
    go_ret
    rw [HI2.out]
    exact ⟨rfl, HB2.out⟩
   | false =>
    rw [hq, if_neg (by simp)] at hI2
    have HI2 := Aside0.mk hI2
    clear hI2
    go_wp2_with (go_at_call 58; refine (hdr_1 _ _ nm B _ hBr).mono ?_; rintro e w2 ⟨rfl, hb2⟩; rw [hq]; have HB2 := Aside0.mk (HBl.out.trans (hb2.mono HBl.out.size)); clear hb2)
    go_roundg kx
    case measure => omega
    case rel => exact ⟨i + 1, by push_cast; rfl, by omega, HI2, HB2⟩
theorem idxH_find (nm : ByteArray) : ∀ (l : List S55) (i : Nat), (idxH nm l i = -1 ∧ l.find? (fun x => x.f0.toList == nm.toList) = none) ∨ ∃ j, j < l.length ∧ idxH nm l i = ((i + j : Nat) : Int) ∧ l.find? (fun x => x.f0.toList == nm.toList) = some (rd_T55 l (j : Int))
 | [], _ => .inl ⟨rfl, rfl⟩
 | x :: t, i => by
  rw [idxH_cons]
  cases hq : (x.f0.toList == nm.toList) with
  | true => exact .inr ⟨0, by simp, by rw [if_pos rfl]; simp, by simp only [List.find?, hq]; rfl⟩
  | false =>
   rw [if_neg (by simp)]
   rcases idxH_find nm t (i + 1) with ⟨h1, h2⟩ | ⟨j, h1, h2, h3⟩
   ·exact .inl ⟨h1, by simp only [List.find?, hq]; exact h2⟩
   ·exact .inr ⟨j + 1, by simpa using h1, by rw [h2]; congr 1; omega, by simp only [List.find?, hq]; rw [h3]; rfl⟩
def findH (l : List S55) (nm : ByteArray) : ByteArray × Bool := match l.find? (fun x => x.f0.toList == nm.toList) with
 | some x => (x.f1, true)
 | none => ((⟨#[]⟩ : ByteArray), false)
def request_Get.f (a0_0 : ByteArray) (a0_1 : ByteArray) (a0_2 : ByteArray) (l0_3 : List (S55)) (l0_4 : List Int) (a1 : ByteArray) : Option (ByteArray × Bool) := if l0_3.length < 1000000 then some (findH l0_3 a1) else none
set_option maxRecDepth 100000 in
set_option maxHeartbeats 4000000 in
theorem request_Get.calls (a0_0 : ByteArray) (a0_1 : ByteArray) (a0_2 : ByteArray) (A0_3 : Option Addr) (c0_3 : Nat) (l0_3 : List (S55)) (A0_4 : Option Addr) (c0_4 : Nat) (l0_4 : List Int) (a1 : ByteArray) (r1 : ByteArray) (r2 : Bool) (w : World) (hr0_3 : Kd.C k55 w A0_3 l0_3.length l0_3) (hc0_3 : l0_3.length ≤ c0_3) (hr0_4 : Kd.C (Kd.int .u8) w A0_4 l0_4.length l0_4) (hc0_4 : l0_4.length ≤ c0_4) (h : request_Get.f a0_0 a0_1 a0_2 l0_3 l0_4 a1 = some (r1, r2)) :
  Calls Tryz.prog 30 #[.agg #[.string a0_0, .string a0_1, .string a0_2, .slice A0_3 l0_3.length c0_3, .slice A0_4 l0_4.length c0_4], .string a1] w fun e w' => e = .returned (.tuple #[.string r1, .bool r2]) ∧ Below w.heap.size w w' := by
 unfold request_Get.f at h
 split at h
 case isFalse => cases h
 case isTrue hlim =>
 have HF := Aside0.mk (Option.some.inj h)
 have huL := Tryz.underlying42
 have huH := Tryz.underlying55
 have HR := Aside0.mk hr0_3
 clear hr0_3 hr0_4 h
 have hbx0 := blk_new w (.cells #[.string a0_0, .string a0_1, .string a0_2, .slice A0_3 l0_3.length c0_3, .slice A0_4 l0_4.length c0_4] 44)
 have hbx := blk_new (w.alloc (.cells #[.string a0_0, .string a0_1, .string a0_2, .slice A0_3 l0_3.length c0_3, .slice A0_4 l0_4.length c0_4] 44)) (.cells #[.string a1] 9)
 have hB := (blk_cell hbx 0).trans rfl
 have hsz : (w.alloc (.cells #[.string a0_0, .string a0_1, .string a0_2, .slice A0_3 l0_3.length c0_3, .slice A0_4 l0_4.length c0_4] 44)).heap.size = w.heap.size + 1 := by simp
 rw [hsz] at hB
 have hold : ∀ w2, Below (w.heap.size + 1 + 1) ((w.alloc (.cells #[.string a0_0, .string a0_1, .string a0_2, .slice A0_3 l0_3.length c0_3, .slice A0_4 l0_4.length c0_4] 44)).alloc (.cells #[.string a1] 9)) w2 → w2.cell? ⟨w.heap.size, 3, none⟩ = some (.slice A0_3 l0_3.length c0_3) ∧ Below w.heap.size w w2 := fun w2 hb2 =>
  ⟨(hb2.cell (p := ⟨w.heap.size, 3, none⟩) (by show w.heap.size < _; omega)).trans (by simp), (below_alloc (below_alloc (Below.refl _ _) _) _).trans (hb2.mono (by omega))⟩
 rcases idxH_find a1 l0_3 0 with ⟨h1, h2⟩ | ⟨j, h1, h2, h3⟩
 ·have hfp := HF.out
  unfold findH at hfp
  rw [h2] at hfp
  obtain ⟨rfl, rfl⟩ := Prod.mk.inj hfp
  clear hfp h2 HF
  go_enter Tryz.func30, Tryz.ntmps30
  go_wp2_with (go_at_call 57; refine (index_hdr A0_3 c0_3 l0_3 a1 (w.heap.size + 1) _ (Kd.C_alloc (Kd.C_alloc HR.out _) _) hlim hB).mono ?_; rintro e w2 ⟨rfl, hb2⟩; rw [h1]; have HB2 := Aside0.mk (hold w2 (by simpa using hb2)).2; clear hb2)
  go_ret2
  exact ⟨rfl, HB2.out⟩
 ·have hfp := HF.out
  unfold findH at hfp
  rw [h3] at hfp
  obtain ⟨e1, rfl⟩ := Prod.mk.inj hfp
  have E1 := Aside0.mk e1
  clear hfp h3 HF e1
  obtain ⟨ad, hA, hc0', hc1⟩ := at_T55 HR.out (j : Int) (by omega) (by omega)
  subst hA
  simp only [Int.toNat_natCast] at hc0' hc1
  rw [E1.out] at hc1
  rw [Nat.zero_add] at h2
  have hj1 : decide ((j : Int) < 0) = false := decide_eq_false (by omega)
  have hj2 : (j : Int) < (l0_3.length : Int) := by omega
  have HC1 := Aside0.mk hc1
  clear hc1 hc0'
  go_enter Tryz.func30, Tryz.ntmps30
  go_wp2_with (go_at_call 57; refine (index_hdr (some ad) c0_3 l0_3 a1 (w.heap.size + 1) _ (Kd.C_alloc (Kd.C_alloc HR.out _) _) hlim hB).mono ?_; rintro e w2 ⟨rfl, hb2⟩; rw [h2]; obtain ⟨hc3, hbb⟩ := hold w2 (by simpa using hb2); have HB2 := Aside0.mk hbb; have hc2 := (HB2.out.cell (World.block_lt_of_cell? w _ HC1.out)).trans HC1.out; clear hb2 hbb)
  go_ret2
  exact ⟨rfl, HB2.out⟩
def request_Header_31.f (l0 : List (S55)) : Option (List (S55)) := if l0.length < 1000000000 then some l0 else none
set_option maxRecDepth 100000 in
set_option maxHeartbeats 4000000 in
theorem request_Header_31.calls (A0 : Option Addr) (c0 : Nat) (l0 : List (S55)) (r : List (S55)) (w : World) (hr0 : Kd.C k55 w A0 l0.length l0) (hc0 : l0.length ≤ c0) (h : request_Header_31.f l0 = some r) :
  Calls Tryz.prog 31 #[.slice A0 l0.length c0] w fun e w' => ∃ v0_ : Value, e = .returned (v0_) ∧ Kd.R k55 55 w' w.heap.size (fun _ => True) v0_ r ∧ Below w.heap.size w w' := by
 unfold request_Header_31.f at h
 split at h
 case isFalse => cases h
 case isTrue hl =>
 obtain rfl := Option.some.inj h
 have huL := Tryz.underlying42
 have hnil := fun (A : Option Addr) (W : World) => Lib.run_eql_slice_nil (P := Tryz.prog) W 42 _ A l0.length c0 0 0 huL
 clear h
 rcases A0 with _ | ad
 ·have h0 : l0 = [] := by
   rcases l0 with _ | ⟨x, t⟩
   ·rfl
   ·obtain ⟨ad, h9, _⟩ := hr0.2.2 (by simp)
    cases h9
  subst h0
  clear hr0
  simp only [List.length_nil] at hnil
  go_enter Tryz.func31, Tryz.ntmps31
  go_wp2
  go_ret
  exact ⟨.slice none 0 0, rfl, Kd.R_nil _ _ _ _ _, by repeat (first | exact Below.refl _ _ | refine below_alloc ?_ _)⟩
 ·have HR := Aside0.mk hr0
  have hE : ∀ W : World, Kd.R k55 55 (W.alloc (.cells #[] 55)) W.heap.size (fun _ => True) (.slice (some ⟨W.heap.size, 0, none⟩) 0 0) [] := fun W => ⟨fun _ _ => trivial, [], own_empty (heap_alloc_new W _) (Nat.le_refl _), Reps.none _ _⟩
  clear hr0
  go_enter Tryz.func31, Tryz.ntmps31
  go_wp2_with (at_builtin; refine Kd.R_append_rows k55 (w0 := w) w.heap.size rfl (.tmp 5) (.tmp 6) 42 55 (.agg #[(.string ⟨#[]⟩), (.string ⟨#[]⟩)]) 32 rfl huL info55 rfl (by decide) (by omega) (.slice (some ⟨w.heap.size, 0, none⟩) 0 0) [] l0 (some ad) l0.length c0 (fun _ => True) (fun _ => False) rfl rfl (hE w) (Kd.C_alloc HR.out _) (fun x cs h => by rw [k55_open h]; exact k55_mkM _ _ _ x) (fun _ h => h.elim) (fun _ _ => trivial) (below_alloc (Below.refl _ _) _) (by simp) (by simp only [List.length_nil]; omega) ?_; intro v1 w1 hO hB hg_ hn_)
  go_ret
  exact ⟨v1, rfl, hO, hB⟩
def sortT (l : List ByteArray) : List ByteArray := ((l.map bl).mergeSort fun x y => decide (x ≤ y)).map ba
theorem encStr_bl (l : List ByteArray) : (l.map bl).map encStr = l.map Value.string := by
 rw [List.map_map]
 exact List.map_congr_left fun x _ => congrArg Value.string (Lib.mk_data x)
theorem encStr_ba (l : List (List UInt8)) : l.map encStr = (l.map ba).map Value.string := by
 rw [List.map_map]; rfl
def slices_Sort_string_string.f (l0 : List ByteArray) : Option (List ByteArray) := if l0.length < 1000000000 then some (sortT l0) else none
theorem slices_Sort_string_string.calls (P0_ : Nat → Prop) (u9000_ : Value) (l0 : List ByteArray) (r : List ByteArray) (w0 w : World) (hB : Below w0.heap.size w0 w) (ho0 : Kd.R Kd.string 9 w w0.heap.size P0_ u9000_ l0) (h : slices_Sort_string_string.f l0 = some r) :
  Calls Tryz.prog 32 #[u9000_] w fun e w' => e = .returned (.tuple #[]) ∧ Kd.R Kd.string 9 w' w0.heap.size (fun k_ => (P0_ k_ ∨ w.heap.size ≤ k_)) u9000_ r ∧ Below w0.heap.size w0 w' ∧ Kept w w' (fun k_ => P0_ k_) := by
 unfold slices_Sort_string_string.f at h
 split at h
 case isFalse => cases h
 case isTrue hl =>
 obtain rfl := Option.some.inj h
 have hown := Kd.own_of_R ho0
 have hlen : (sortT l0).length = l0.length := by simp [sortT]
 have hm : (l0.map bl).length = l0.length := List.length_map ..
 rcases hown.2 with ⟨rfl, h0⟩ | ⟨g, cap, cur, rfl, hg, hh, hcap, hmx, hcs, htk⟩
 ·obtain rfl : l0 = [] := List.eq_nil_of_length_eq_zero h0
  refine (Tryz.slices_Sort_string_none none 0 w).mono ?_
  rintro e w' ⟨rfl, rfl⟩
  have e0 : sortT [] = [] := by simp [sortT]
  rw [e0]
  exact ⟨rfl, Kd.R_nil _ _ _ _ _, hB, Kept.refl _ _⟩
 ·have hgl : g < w.heap.size := (Array.getElem?_eq_some_iff.1 hh).1
  have hP : P0_ g := ho0.1 g rfl
  have htk2 : cur.toList.take (l0.map bl).length = (l0.map bl).map encStr := by
   rw [hm, encStr_bl]
   rw [Nat.mul_one] at htk
   exact htk
  have hH := holds_of_block hh htk2
  have hcon := Tryz.slices_Sort_string g 0 cap (l0.map bl) w hH hgl (by rw [hm]; omega)
  rw [hm] at hcon
  refine hcon.mono ?_
  rintro e w' ⟨rfl, n, os, rfl⟩
  have hgr := grownBy_sorted (w := w) (g := g) (n := n) (os := os) ((l0.map bl).mergeSort fun x y => decide (x ≤ y)).toArray
  have hS := ownsRow_sorted (w := w) (n := n) (os := os) (ss := l0.map bl) (ts := (l0.map bl).mergeSort fun x y => decide (x ≤ y)) (by simp) hg hh (by rw [hm]; exact hcap) hmx hcs
  rw [hm, encStr_ba] at hS
  refine ⟨rfl, ?_, ?_, ?_⟩
  ·have hR := Kd.R_of_own (enc := Value.string) (h1 := fun _ => rfl) (xs := sortT l0) (ok := fun k_ => P0_ k_ ∨ w.heap.size ≤ k_) (by rw [hlen]; exact hS) (fun k hk => by
    obtain rfl : g = k := by simpa [Value.ownBlock] using hk
    exact .inl hP)
   exact hR
  ·exact ⟨hgr.os.trans hB.os, hgr.tape.trans hB.tape, hgr.output.trans hB.output, Nat.le_trans hB.size hgr.size, fun k hk => (hgr.block k (Nat.lt_of_lt_of_le hk hB.size) (fun e => by injection e with e; omega)).trans (hB.block k hk)⟩
  ·exact ⟨hgr.size, fun k hk hn => hgr.block k hk (fun e => by injection e with e; exact hn (e ▸ hP))⟩
def api_Errno.l0 : Nat → Int → List Int → Int → Int → Option (Int)
 | 0, _, _, _, _ => none
 | k + 1, x3, x6, x7, x8 => if x8 < x7 then (if 0 ≤ x8 then (if x8 < (x6.length : Int) then (if (rd x6 x8) = x3 then (api_Errno.l0 k x3 x6 x7 (wrap64 (x8 + 1))) else (some (rd x6 x8))) else (none)) else (none)) else (some x3)
def api_Errno.f (k : Nat) (l0 : List Int) : Option (Int) := api_Errno.l0 k 0 l0 (l0.length : Int) 0
set_option maxHeartbeats 8000000 in
set_option maxRecDepth 100000 in
theorem api_Errno.calls (k : Nat) (A0 : Option Addr) (c0 : Nat) (l0 : List Int) (r : Int) (w : World) (hr0 : Kd.C (Kd.int .i64) w A0 l0.length l0) (hc0 : l0.length ≤ c0) (h : api_Errno.f k l0 = some r) :
  Calls Tryz.prog 36 #[.slice A0 l0.length c0] w fun e w' => e = .returned (.int .i64 r) ∧ Drawn0 w w' := by
 have HR0 := Aside0.mk hr0
 have HC0 := Aside0.mk hc0
 clear hr0 hc0
 have H : (api_Errno.l0 k 0 l0 (l0.length : Int) 0) = some r := h
 clear h
 have H' := Aside0.mk H
 clear H
 go_enter Tryz.func36, Tryz.ntmps36
 go_wp2
 go_loopg [8] k (fun kq v8 w' => ∃ (x8_1 : Int), v8 = .int .i64 x8_1 ∧ Aside0 (api_Errno.l0 kq 0 l0 (l0.length : Int) x8_1 = some r) ∧ Aside0 (kq ≤ k) ∧ Drawn0 w w')
 case atStart => exact ⟨(0), (by first | rfl | (simp; done) | (simp [*]; done)), H', ⟨Nat.le_refl _⟩, by repeat (first | exact Drawn0.refl _ | apply Drawn0.step)⟩
 case round =>
  clear H'
  obtain ⟨x8_1, rfl, HA, HK1, ⟨m1, rfl⟩⟩ := hrel
  cases gk with
  | zero => exact absurd HA.out (by simp [api_Errno.l0])
  | succ k1 =>
   have H := HA.out
   clear HA
   simp only [api_Errno.l0] at H
   by_cases c2 : x8_1 < (l0.length : Int)
   rotate_left
   ·rw [if_neg c2] at H
    have c2b0 : decide (x8_1 < (l0.length : Int)) = false := decide_eq_false c2
    clear c2
    obtain rfl := Option.some.inj H
    go_wp2
    go_ret
    exact ⟨by first | rfl | (simp; done) | (simp [*]; done), by repeat (first | exact Drawn0.refl _ | apply Drawn0.step)⟩
   rw [if_pos c2] at H
   have c2b0 : decide (x8_1 < (l0.length : Int)) = true := decide_eq_true c2
   clear c2
   by_cases c3 : 0 ≤ x8_1
   rotate_left
   ·rw [if_neg c3] at H
    exact absurd H (by simp)
   rw [if_pos c3] at H
   have c3b0 : decide (0 ≤ x8_1) = true := decide_eq_true c3
   clear c3
   by_cases c4 : x8_1 < (l0.length : Int)
   rotate_left
   ·rw [if_neg c4] at H
    exact absurd H (by simp)
   rw [if_pos c4] at H
   have c4b0 : decide (x8_1 < (l0.length : Int)) = true := decide_eq_true c4
   clear c4
   by_cases c5 : (rd l0 x8_1) = 0
   rotate_left
   ·rw [if_neg c5] at H
    have c5b0 : ((rd l0 x8_1) == 0) = false := beq_eq_false_iff_ne.mpr c5
    have c5b1 : ((rd l0 x8_1) != 0) = true := bne_iff_ne.mpr c5
    obtain rfl := Option.some.inj H
    have p128 : 0 ≤ (x8_1 : Int) := ode_
    have q128 : x8_1 < (l0.length : Int) := ode_
    obtain ⟨ad128, e128, hx128_0⟩ := Kd.at_int HR0.out x8_1 p128 q128
    cases e128
    replace p128 := eq_true p128
    replace q128 := eq_true q128
    go_wp2
    go_ret
    exact ⟨by first | rfl | (simp; done) | (simp [*]; done), by repeat (first | exact Drawn0.refl _ | apply Drawn0.step)⟩
   rw [if_pos c5] at H
   have c5b0 : ((rd l0 x8_1) == 0) = true := beq_iff_eq.mpr c5
   have c5b1 : ((rd l0 x8_1) != 0) = false := bne_eq_false_iff_eq.mpr c5
   clear c5
   have H' := Aside0.mk H
   clear H
   have p128 : 0 ≤ (x8_1 : Int) := ode_
   have q128 : x8_1 < (l0.length : Int) := ode_
   obtain ⟨ad128, e128, hx128_0⟩ := Kd.at_int HR0.out x8_1 p128 q128
   cases e128
   replace p128 := eq_true p128
   replace q128 := eq_true q128
   go_wp2
   go_roundg k1
   case measure => have := HK1.out; omega
   case rel => exact ⟨(wrap64 (x8_1 + 1)), (by first | rfl | (simp; done) | (simp [*]; done)), H', ⟨by have := HK1.out; omega⟩, by repeat (first | exact Drawn0.refl _ | apply Drawn0.step)⟩
def digest_Hex.f (l0 : List Int) : Option (ByteArray) := if l0.length ≤ 1000000 ∧ ∀ x ∈ l0, 0 ≤ x ∧ x < 256 then some (ba (l0.flatMap hexTwo)) else none
set_option maxRecDepth 100000 in
set_option maxHeartbeats 4000000 in
theorem digest_Hex.calls (A0 : Option Addr) (c0 : Nat) (l0 : List Int) (r : ByteArray) (w : World) (hr0 : Kd.C (Kd.int .u8) w A0 l0.length l0) (hc0 : l0.length ≤ c0) (h : digest_Hex.f l0 = some r) :
  Calls Tryz.prog 62 #[.slice A0 l0.length c0] w fun e w' => e = .returned (.string r) ∧ Below w.heap.size w w' := by
 unfold digest_Hex.f at h
 split at h
 case isFalse => cases h
 case isTrue hl =>
 obtain rfl := Option.some.inj h
 exact dig_hex l0 (by omega) hl.2 A0 c0 w (Kd.reads_of_C (d := 0) hr0).2.2
def shaZ (l : List Int) : List Int := (shaOf (l.map Int.toNat)).map fun n : Nat => (n : Int)
def digest_Sha256.f (l0 : List Int) : Option (List Int) := if l0.length < 1152921504606846976 ∧ ∀ x ∈ l0, 0 ≤ x ∧ x < 256 then some (shaZ l0) else none
set_option maxRecDepth 100000 in
set_option maxHeartbeats 4000000 in
theorem digest_Sha256.calls (A0 : Option Addr) (c0 : Nat) (l0 : List Int) (r : List Int) (w : World) (hr0 : Kd.C (Kd.int .u8) w A0 l0.length l0) (hc0 : l0.length ≤ c0) (h : digest_Sha256.f l0 = some r) :
  Calls Tryz.prog 63 #[.slice A0 l0.length c0] w fun e w' => ∃ v0_ : Value, e = .returned (v0_) ∧ Kd.R (Kd.int .u8) 5 w' w.heap.size (fun _ => True) v0_ r ∧ Below w.heap.size w w' := by
 unfold digest_Sha256.f at h
 split at h
 case isFalse => cases h
 case isTrue hl =>
 obtain rfl := Option.some.inj h
 have hm : (l0.map Int.toNat).length = l0.length := List.length_map ..
 have h1 := sha256 (l0.map Int.toNat) (fun x hx => by obtain ⟨y, hy, rfl⟩ := List.mem_map.1 hx; have := hl.2 y hy; omega) (by rw [hm]; exact hl.1) A0 c0 (by rw [hm]; exact hc0) w (has_of_C hr0 hl.2)
 rw [hm] at h1
 refine h1.mono ?_
 rintro e w' ⟨v, rfl, hO, hF⟩
 exact ⟨v, rfl, R_bytes (l := shaOf (l0.map Int.toNat)) (by rw [shaOf_len]; exact hO), hF.below (Nat.le_refl _) (fun _ _ => id)⟩
def uri_Decode.f (a0 : ByteArray) : Option (ByteArray × Int) := if a0.size ≤ 100000000 then some (ba (decR (bl a0)).1, (decR (bl a0)).2) else none
set_option maxRecDepth 100000 in
set_option maxHeartbeats 4000000 in
theorem uri_Decode.calls (a0 : ByteArray) (r1 : ByteArray) (r2 : Int) (w : World) (h : uri_Decode.f a0 = some (r1, r2)) :
  Calls Tryz.prog 102 #[.string a0] w fun e w' => e = .returned (.tuple #[.string r1, .int .i64 r2]) ∧ Below w.heap.size w w' := by
 unfold uri_Decode.f at h
 split at h
 case isFalse => cases h
 case isTrue hl =>
 obtain ⟨rfl, rfl⟩ := Prod.mk.inj (Option.some.inj h)
 have := uri_Decode (bl a0) w (by show a0.size ≤ _; omega)
 rwa [show str (bl a0) = .string a0 from congrArg Value.string (Lib.mk_data a0)] at this
end Go.Proofs.YtghcadbmjglidaaGreatDoor.PSg
end
section
namespace Go.Proofs.YtghcadbmjglidaaGreatDoor.PSg
open Go.RowKit Go.Proofs.YtghcadbmjglidaaGreatDoorW.PrintWords Go.Proofs.YtghcadbmjglidaaGreatDoorW.PrintLast Go.Proofs.YtghcadbmjglidaaGreatDoorW.PrintMore
attribute [local go_sem] max2_int min2_int max_two min_two max_three min_three max_four min_four
set_option linter.unusedVariables false
set_option linter.unusedSimpArgs false
open Go.Shelf
theorem or2 (fa fb : Int) (w : World) : Calls Tryz.prog 36 #[.slice (some ⟨w.heap.size, 0, none⟩) 2 2] (w.alloc (.cells #[.int .i64 fa, .int .i64 fb] 27)) fun e w' => e = .returned (.int .i64 (orZ [fa, fb])) ∧ w.alloc (.cells #[.int .i64 fa, .int .i64 fb] 27) = w' :=
 or_errno [fa, fb] _ _ _ (by simp) fun i hi => by
  match i, hi with
  | 0, _ => simp [Addr.add]
  | 1, _ => simp [Addr.add]
theorem cut1_le (c : UInt8) (l : List UInt8) : (Uri.cut1 c l).1.length + (Uri.cut1 c l).2.1.length ≤ l.length := by
 rcases Uri.cut1_cases c l with ⟨h, _⟩ | ⟨a, b, rfl, _, h⟩ <;> rw [h] <;> simp
set_option maxHeartbeats 4000000 in
set_option maxRecDepth 100000 in
theorem find_1 (a b nm : ByteArray) (B : Nat) (w : World) (hB : w.cell? ⟨B, 0, none⟩ = some (.string nm)) :
  Calls Tryz.prog 170 #[.agg #[.string a, .string b], .pointer (some ⟨B, 0, none⟩)] w fun e w' => e = .returned (.bool (a.toList == nm.toList)) ∧ Below w.heap.size w w' := by
 have hu37 := Tryz.underlying185
 have hlt : B < w.heap.size := World.block_lt_of_cell? w _ hB
 go_enter Tryz.func170, Tryz.ntmps170
 go_wp2
 go_ret
 exact ⟨rfl, below_alloc (Below.refl _ _) _⟩
def idxN (nm : ByteArray) : List S185 → Nat → Int
 | [], _ => -1
 | x :: t, i => if (x.f0.toList == nm.toList) = true then (i : Int) else idxN nm t (i + 1)
theorem idxN_cons (nm : ByteArray) (x : S185) (t : List S185) (i : Nat) : idxN nm (x :: t) i = if (x.f0.toList == nm.toList) = true then (i : Int) else idxN nm t (i + 1) := rfl
set_option maxHeartbeats 8000000 in
set_option maxRecDepth 100000 in
theorem index_func (A0 : Option Addr) (c0 : Nat) (l0 : List S185) (nm : ByteArray) (B : Nat) (w : World) (hr0 : Kd.C k185 w A0 l0.length l0) (hlim : l0.length < 1000000) (hB : w.cell? ⟨B, 0, none⟩ = some (.string nm)) :
  Calls Tryz.prog 169 #[.slice A0 l0.length c0, .func (.func 170) #[] #[.pointer (some ⟨B, 0, none⟩)]] w fun e w' => e = .returned (.int .i64 (idxN nm l0 0)) ∧ Below w.heap.size w w' := by
 have hu24 := Tryz.underlying140
 have hu37 := Tryz.underlying185
 have HR := Aside0.mk hr0
 clear hr0
 go_enter Tryz.func169, Tryz.ntmps169
 go_wp2
 go_loopg [8] l0.length (fun kx s8 wr => ∃ i : Nat, s8 = .int .i64 i ∧ i + kx = l0.length ∧ Aside0 (idxN nm l0 0 = idxN nm (l0.drop i) i) ∧ Aside0 (Below w.heap.size w wr))
 case atStart => exact ⟨0, rfl, by omega, .mk rfl, .mk (Below.refl _ _)⟩
 case round =>
  obtain ⟨i, rfl, hik, HI, HBl⟩ := hrel
  cases gk with
  | zero =>
   obtain rfl : i = l0.length := by omega
   have hd : decide ((l0.length : Int) < (l0.length : Int)) = false := decide_eq_false (by omega)
   go_wp2
   go_ret
   rw [HI.out, List.drop_length]
   exact ⟨rfl, HBl.out⟩
  | succ kx =>
   have hi : i < l0.length := by omega
   have hd : decide ((i : Int) < (l0.length : Int)) = true := decide_eq_true (by omega)
   obtain ⟨ad, hA, hc0, hc1⟩ := at_T185 (Kd.C_below HR.out HBl.out) (i : Int) (by omega) (by omega)
   subst hA
   simp only [Int.toNat_natCast] at hc0 hc1
   have hx : rd_T185 l0 (i : Int) = l0[i] := by unfold rd_T185; rw [Int.toNat_natCast, List.getD_eq_getElem?_getD, List.getElem?_eq_getElem hi]; rfl
   rw [hx] at hc0 hc1
   have hw : wrap64 ((i : Int) + 1) = ((i + 1 : Nat) : Int) := by unfold wrap64; omega
   have hBr : wr.cell? ⟨B, 0, none⟩ = some (.string nm) := (HBl.out.cell (World.block_lt_of_cell? w _ hB)).trans hB
   have hI2 := HI.out
   rw [List.drop_eq_getElem_cons hi, idxN_cons] at hI2
   cases hq : (l0[i].f0.toList == nm.toList) with
   | true =>
    rw [hq, if_pos rfl] at hI2
    have HI2 := Aside0.mk hI2
    clear hI2
    go_wp2_with (go_at_call 170; refine (find_1 _ _ nm B _ hBr).mono ?_; rintro e w2 ⟨rfl, hb2⟩; rw [hq]; have HB2 := Aside0.mk (HBl.out.trans (hb2.mono HBl.out.size)); clear hb2)
    go_ret
    rw [HI2.out]
    exact ⟨rfl, HB2.out⟩
   | false =>
    rw [hq, if_neg (by simp)] at hI2
    have HI2 := Aside0.mk hI2
    clear hI2
    go_wp2_with (go_at_call 170; refine (find_1 _ _ nm B _ hBr).mono ?_; rintro e w2 ⟨rfl, hb2⟩; rw [hq]; have HB2 := Aside0.mk (HBl.out.trans (hb2.mono HBl.out.size)); clear hb2)
    go_roundg kx
    case measure => omega
    case rel => exact ⟨i + 1, by push_cast; rfl, by omega, HI2, HB2⟩
theorem idxN_find (nm : ByteArray) : ∀ (l : List S185) (i : Nat), (idxN nm l i = -1 ∧ l.find? (fun x => x.f0.toList == nm.toList) = none) ∨ ∃ j, j < l.length ∧ idxN nm l i = ((i + j : Nat) : Int) ∧ l.find? (fun x => x.f0.toList == nm.toList) = some (rd_T185 l (j : Int))
 | [], _ => .inl ⟨rfl, rfl⟩
 | x :: t, i => by
  rw [idxN_cons]
  cases hq : (x.f0.toList == nm.toList) with
  | true => exact .inr ⟨0, by simp, by rw [if_pos rfl]; simp, by simp only [List.find?, hq]; rfl⟩
  | false =>
   rw [if_neg (by simp)]
   rcases idxN_find nm t (i + 1) with ⟨h1, h2⟩ | ⟨j, h1, h2, h3⟩
   ·exact .inl ⟨h1, by simp only [List.find?, hq]; exact h2⟩
   ·exact .inr ⟨j + 1, by simpa using h1, by rw [h2]; congr 1; omega, by simp only [List.find?, hq]; rw [h3]; rfl⟩
def findP (l : List S185) (nm : ByteArray) : ByteArray × Bool := match l.find? (fun x => x.f0.toList == nm.toList) with
 | some x => (x.f1, true)
 | none => ((⟨#[]⟩ : ByteArray), false)
def uri_Find.f (l0 : List S185) (a1 : ByteArray) : Option (ByteArray × Bool) := if l0.length < 1000000 then some (findP l0 a1) else none
set_option maxHeartbeats 8000000 in
set_option maxRecDepth 100000 in
theorem uri_Find.calls (A0 : Option Addr) (c0 : Nat) (l0 : List (S185)) (a1 : ByteArray) (r1 : ByteArray) (r2 : Bool) (w : World) (hr0 : Kd.C k185 w A0 l0.length l0) (hc0 : l0.length ≤ c0) (h : uri_Find.f l0 a1 = some (r1, r2)) :
  Calls Tryz.prog 147 #[.slice A0 l0.length c0, .string a1] w fun e w' => e = .returned (.tuple #[.string r1, .bool r2]) ∧ Below w.heap.size w w' := by
 unfold uri_Find.f at h
 split at h
 case isFalse => cases h
 case isTrue hlim =>
 have HF := Aside0.mk (Option.some.inj h)
 have hu24 := Tryz.underlying140
 have hu37 := Tryz.underlying185
 have HR := Aside0.mk hr0
 clear hr0 h
 rcases idxN_find a1 l0 0 with ⟨h1, h2⟩ | ⟨j, h1, h2, h3⟩
 ·have hfp := HF.out
  unfold findP at hfp
  rw [h2] at hfp
  obtain ⟨rfl, rfl⟩ := Prod.mk.inj hfp
  clear hfp h2 HF
  have hbx := blk_new w (.cells #[.string a1] 9)
  have hB := (blk_cell hbx 0).trans rfl
  go_enter Tryz.func147, Tryz.ntmps147
  go_wp2_with (go_at_call 169; refine (index_func A0 c0 l0 a1 w.heap.size _ (Kd.C_alloc HR.out _) hlim hB).mono ?_; rintro e w2 ⟨rfl, hb2⟩; rw [h1]; have HB2 := Aside0.mk hb2; clear hb2)
  go_ret2
  exact ⟨rfl, (below_alloc (Below.refl _ _) _).trans (HB2.out.mono (by simp))⟩
 ·have hfp := HF.out
  unfold findP at hfp
  rw [h3] at hfp
  obtain ⟨e1, rfl⟩ := Prod.mk.inj hfp
  have E1 := Aside0.mk e1
  clear hfp h3 HF e1
  have hbx := blk_new w (.cells #[.string a1] 9)
  have hB := (blk_cell hbx 0).trans rfl
  obtain ⟨ad, hA, hc0', hc1⟩ := at_T185 HR.out (j : Int) (by omega) (by omega)
  subst hA
  simp only [Int.toNat_natCast] at hc0' hc1
  rw [E1.out] at hc1
  rw [Nat.zero_add] at h2
  have hj1 : decide ((j : Int) < 0) = false := decide_eq_false (by omega)
  have hj2 : (j : Int) < (l0.length : Int) := by omega
  have HC1 := Aside0.mk hc1
  clear hc1 hc0'
  go_enter Tryz.func147, Tryz.ntmps147
  go_wp2_with (go_at_call 169; refine (index_func (some ad) c0 l0 a1 w.heap.size _ (Kd.C_alloc HR.out _) hlim hB).mono ?_; rintro e w2 ⟨rfl, hb2⟩; rw [h2]; have HB2 := Aside0.mk ((below_alloc (Below.refl w.heap.size w) (.cells #[.string a1] 9)).trans (hb2.mono (by simp))); have hc2 := (HB2.out.cell (World.block_lt_of_cell? w _ HC1.out)).trans HC1.out; clear hb2)
  go_ret2
  exact ⟨rfl, HB2.out⟩
def badQ (acc : List S185) (x : List UInt8) : Bool :=
 (orZ [(decR (Uri.cut1 61 x).1).2, (decR (Uri.cut1 61 x).2.1).2] != 0) || ((decR (Uri.cut1 61 x).1).1 == []) || (findP acc ⟨(decR (Uri.cut1 61 x).1).1.toArray⟩).2 || (acc.length == 24)
def stepQ (acc : List S185) (x : List UInt8) : Option (List S185) :=
 if badQ acc x = true then none else some (acc ++ [⟨⟨(decR (Uri.cut1 61 x).1).1.toArray⟩, ⟨(decR (Uri.cut1 61 x).2.1).1.toArray⟩⟩])
def runQ (l : List (List UInt8)) : Option (List S185) := l.foldl (fun o x => o.bind (fun acc => stepQ acc x)) (some [])
theorem runQ_snoc (l : List (List UInt8)) (x : List UInt8) : runQ (l ++ [x]) = (runQ l).bind (fun acc => stepQ acc x) := by unfold runQ; rw [List.foldl_append]; rfl
theorem runQ_stuck : ∀ (l : List (List UInt8)), l.foldl (fun (o : Option (List S185)) x => o.bind (fun acc => stepQ acc x)) none = none
 | [] => rfl
 | _ :: t => runQ_stuck t
theorem runQ_prefix {pre l : List (List UInt8)} (h : pre <+: l) (hn : runQ pre = none) : runQ l = none := by
 obtain ⟨t, rfl⟩ := h
 unfold runQ at hn ⊢
 rw [List.foldl_append, hn]
 exact runQ_stuck t
theorem stepQ_len {acc ps : List S185} {x : List UInt8} (h : acc.length ≤ 24) (h2 : stepQ acc x = some ps) : ps.length ≤ 24 := by
 unfold stepQ at h2
 split at h2
 ·cases h2
 ·rename_i hb
  cases h2
  have h24 : (acc.length == 24) = false := by
   cases hq : (acc.length == 24) with
   | false => rfl
   | true => exact absurd (by unfold badQ; rw [hq]; simp) hb
  have : acc.length ≠ 24 := by intro e; rw [e] at h24; cases h24
  rw [List.length_append, List.length_singleton]
  omega
theorem runQ_len0 : ∀ (l : List (List UInt8)) (acc ps : List S185), acc.length ≤ 24 → l.foldl (fun (o : Option (List S185)) x => o.bind (fun acc => stepQ acc x)) (some acc) = some ps → ps.length ≤ 24
 | [], acc, ps, h, e => by cases e; exact h
 | x :: t, acc, ps, h, e => by
  have e : t.foldl (fun (o : Option (List S185)) x => o.bind (fun acc => stepQ acc x)) (stepQ acc x) = some ps := e
  cases hq : stepQ acc x with
  | none => rw [hq, runQ_stuck] at e; cases e
  | some a2 => rw [hq] at e; exact runQ_len0 t a2 ps (stepQ_len h hq) e
theorem runQ_len {l : List (List UInt8)} {ps : List S185} (h : runQ l = some ps) : ps.length ≤ 24 := runQ_len0 l [] ps (Nat.zero_le _) h
def Rp (p : S185) (c : List Value) : Prop := c = [.string p.f0, .string p.f1]
structure QSt (w : World) (g3 g4 b0 : Nat) (v : Value) (ps : List S185) (W : World) : Prop where
 b2 : Boxed W w.heap.size 140 (.slice none 0 0)
 b3 : Boxed W g3 27 (.int .i64 0)
 b4 : Boxed W g4 140 v
 row : OwnRow Rp 185 2 W (b0 + 3) v ps
 sz : b0 + 3 ≤ W.heap.size
 bl : Below w.heap.size w W
structure XSt (w : World) (g3 b0 : Nat) (W : World) : Prop where
 b2 : Boxed W w.heap.size 140 (.slice none 0 0)
 b3 : Boxed W g3 27 (.int .i64 13)
 sz : b0 + 3 ≤ W.heap.size
 bl : Below w.heap.size w W
section
variable {w W W' : World} {g3 g4 b0 : Nat} {v : Value} {ps : List S185}
theorem bxB {B : Nat} {t : TypeId} {u : Value} (h : Boxed W B t u) (hb : Below W.heap.size W W') : Boxed W' B t u := (hb.block _ h.lt).trans h
theorem keepsB {B : Nat} (hb : Below W.heap.size W W') : KeepsFrom B W W' := ⟨hb.size, fun k o _ hk _ => (hb.block k (Array.getElem?_eq_some_iff.1 hk).1).trans hk⟩
theorem kpsB {b0 : Nat} (h : b0 + 3 ≤ W.heap.size) (hb : Below W.heap.size W W') : KpS b0 W W' := ⟨hb.block _ (by omega), hb.block _ (by omega), hb.block _ (by omega)⟩
theorem QSt.R (h : QSt w g3 g4 b0 v ps W) : Kd.R k185 185 W (b0 + 3) (fun _ => True) v ps := ⟨fun _ _ => trivial, OwnRow.imp_ h.row (fun p c e => by rw [show c = _ from e]; exact k185_mkM _ _ _ _)⟩
theorem row_below {b : Nat} {v : Value} {ps : List S185} (h : OwnRow Rp 185 2 W b v ps) (hb : Below W.heap.size W W') : OwnRow Rp 185 2 W' b v ps := by
 obtain ⟨inner, ho, hr⟩ := h
 refine ⟨inner, ⟨ho.1, ?_⟩, hr⟩
 rcases ho.2 with h0 | ⟨g, cap, cur, h1, h2, h3, h4⟩
 ·exact .inl h0
 ·exact .inr ⟨g, cap, cur, h1, h2, (hb.block _ (Array.getElem?_eq_some_iff.1 h3).1).trans h3, h4⟩
theorem QSt.below (h : QSt w g3 g4 b0 v ps W) (hb : Below W.heap.size W W') : QSt w g3 g4 b0 v ps W' :=
 ⟨bxB h.b2 hb, bxB h.b3 hb, bxB h.b4 hb, row_below h.row hb, Nat.le_trans h.sz hb.size, h.bl.trans (hb.mono h.bl.size)⟩
theorem row_kept {b : Nat} (h : OwnRow Rp 185 2 W b v ps) {row : Option Nat} (hg : W.grownBy W' row) (hr : ∀ r, row = some r → r < b ∨ ∃ o : Obj, W.heap[r]? = some o ∧ o.isCells = false) : OwnRow Rp 185 2 W' b v ps := by
 obtain ⟨inner, ho, hrp⟩ := h
 refine ⟨inner, ho.kept hg ?_, hrp⟩
 rcases ho.2 with ⟨rfl, _⟩ | ⟨g, cap, cur, rfl, hb, hc, _⟩
 ·exact .inl rfl
 ·refine .inr fun e => ?_
  rcases hr g e.symm with h1 | ⟨o, h2, h3⟩
  ·omega
  ·rw [hc] at h2; cases h2; cases h3
theorem QSt.kept (h3 : g3 < b0) (h4 : g4 < b0) (hw : w.heap.size < b0) (h : QSt w g3 g4 b0 v ps W) {row : Option Nat} (hg : W.grownBy W' row) (hr : ∀ r, row = some r → r = b0 ∨ (b0 + 3 ≤ r ∧ ∃ o : Obj, W.heap[r]? = some o ∧ o.isCells = false)) : QSt w g3 g4 b0 v ps W' := by
 have ne : ∀ k, k < b0 → some k ≠ row := fun k hk e => by rcases hr k e.symm with h1 | h1 <;> omega
 exact ⟨h.b2.kept hg (ne _ hw), h.b3.kept hg (ne _ h3), h.b4.kept hg (ne _ h4), row_kept h.row hg (fun r e => by rcases hr r e with h1 | h1; exact .inl (by omega); exact .inr h1.2), Nat.le_trans h.sz hg.size, h.bl.grown hg (by have := h.sz; omega) (fun k e => by rcases hr k e with h1 | h1 <;> omega)⟩
theorem XSt.kept (h3 : g3 < b0) (hw : w.heap.size < b0) (h : XSt w g3 b0 W) {row : Option Nat} (hg : W.grownBy W' row) (hr : ∀ r, row = some r → r = b0 ∨ (b0 + 3 ≤ r ∧ ∃ o : Obj, W.heap[r]? = some o ∧ o.isCells = false)) : XSt w g3 b0 W' := by
 have ne : ∀ k, k < b0 → some k ≠ row := fun k hk e => by rcases hr k e.symm with h1 | h1 <;> omega
 exact ⟨h.b2.kept hg (ne _ hw), h.b3.kept hg (ne _ h3), Nat.le_trans h.sz hg.size, h.bl.grown hg (by have := h.sz; omega) (fun k e => by rcases hr k e with h1 | h1 <;> omega)⟩
theorem QSt.out (h3 : g3 < b0) (hw : w.heap.size < b0) (hw3 : w.heap.size < g3) (h : QSt w g3 g4 b0 v ps W) :
  XSt w g3 b0 ((W.setCell ⟨w.heap.size, 0, none⟩ (.slice none 0 0)).setCell ⟨g3, 0, none⟩ (.int .i64 13)) ∧ ∀ B, KeepsFrom B W ((W.setCell ⟨w.heap.size, 0, none⟩ (.slice none 0 0)).setCell ⟨g3, 0, none⟩ (.int .i64 13)) :=
 ⟨⟨(h.b2.set _).kept (grownBy_setCell' _ _ _) (by intro e; injection e with e; omega), (h.b3.kept (grownBy_setCell' _ _ _) (by intro e; injection e with e; omega)).set _, Nat.le_trans h.sz ((KeepsOthers.setCell _ _ _).trans (KeepsOthers.setCell _ _ _)).size,
  (h.bl.setCell (p := ⟨w.heap.size, 0, none⟩) (Nat.le_refl _) _).setCell (p := ⟨g3, 0, none⟩) (Nat.le_of_lt hw3) _⟩, fun B => ((KeepsOthers.setCell _ _ _).trans (KeepsOthers.setCell _ _ _)).from B⟩
theorem QSt.more (h3 : g3 < b0) (h4 : g4 < b0) (hw : w.heap.size < b0) (hw3 : w.heap.size < g3) (hw4 : w.heap.size < g4) (h34 : g3 ≠ g4) (h : QSt w g3 g4 b0 v ps W) {inner : List Value} (hin : W.ownsRow (b0 + 3) 185 2 v ps.length inner) (hrp : Reps Rp 2 ps inner) {x : S185} {tmp : Obj} {w1 : World} {v' : Value}
  (hown : w1.ownsRow (b0 + 3) 185 2 v' (ps.length + 1) (inner ++ [.string x.f0, .string x.f1])) (hgrow : (W.alloc tmp).grownBy w1 v.ownBlock) :
  Boxed w1 g4 140 v ∧ QSt w g3 g4 b0 v' (ps ++ [x]) (w1.setCell ⟨g4, 0, none⟩ v') ∧ (∀ B, KeepsFrom B W (w1.setCell ⟨g4, 0, none⟩ v')) ∧ KpS b0 W (w1.setCell ⟨g4, 0, none⟩ v') := by
 have own : ∀ k, v.ownBlock = some k → b0 + 3 ≤ k := fun k e => (hin.lt k e).1
 have ne : ∀ k, k < b0 + 3 → some k ≠ v.ownBlock := fun k hk e => by have := own k e.symm; omega
 obtain ⟨q1, q2, q3, q4, q5⟩ := h.b4.appended (n₀ := w.heap.size) (by decide) (hin.mono (by omega)) h.bl.size (Nat.le_of_lt hw4) (hown.mono (base' := w.heap.size) (by omega)) hgrow
 have own' : ∀ k, v'.ownBlock = some k → b0 + 3 ≤ k := fun k e => (hown.lt k e).1
 have nb : ∀ k, k < b0 + 3 → (w1.setCell ⟨g4, 0, none⟩ v').heap[k]? = if k = g4 then (w1.setCell ⟨g4, 0, none⟩ v').heap[k]? else W.heap[k]? := fun k hk => by
  by_cases e : k = g4
  ·rw [if_pos e]
  rw [if_neg e, Below.heap_setCell _ _ _ k e, hgrow.block k (by have := h.sz; simp; omega) (ne k hk), Below.heap_alloc W tmp k (by have := h.sz; omega)]
 have nb2 : ∀ k, k < b0 + 3 → k ≠ g4 → (w1.setCell ⟨g4, 0, none⟩ v').heap[k]? = W.heap[k]? := fun k hk e => (nb k hk).trans (if_neg e)
 refine ⟨q1, ⟨(nb2 _ (by omega) (by omega)).trans h.b2, (nb2 _ (by omega) h34).trans h.b3, q2, ⟨_, ?_, Reps.snoc hrp rfl rfl⟩, Nat.le_trans h.sz q4.size, h.bl.trans q5⟩, fun B => q4.from B, nb2 _ (by omega) (by omega), nb2 _ (by omega) (by omega), nb2 _ (by omega) (by omega)⟩
 have hk := hown.kept (grownBy_setCell' w1 g4 v') (.inr (fun e => by have := own' _ e; omega))
 rw [List.length_append, List.length_singleton]
 exact hk
end
attribute [local go_sem] Oper.semAt_some
def QPost (w : World) (r1 : List S185) (r2 : Int) (e : Ending) (w' : World) : Prop := ∃ v0_ : Value, e = .returned (.tuple #[v0_, .int .i64 r2]) ∧ Kd.R k185 185 w' w.heap.size (fun _ => True) v0_ r1 ∧ Below w.heap.size w w'
def resQ (s : List UInt8) : List S185 × Int := if s = [] then ([], 0) else match runQ (parts 38 s) with
 | some ps => (ps, 0)
 | none => ([], 13)
set_option maxHeartbeats 4000000 in
set_option maxRecDepth 100000 in
theorem query_nil (w : World) : Calls Tryz.prog 103 #[str []] w (QPost w [] 0) := by
 have he : (str [] : Value) = .string ⟨#[]⟩ := rfl
 go_enter Tryz.func103, Tryz.ntmps103
 go_wp2
 refine bodyPost_ret (v := .tuple #[.slice none 0 0, .int .i64 0]) (by simp [results, Tryz.results103, go_sem]) rfl ?_
 exact ⟨_, rfl, Kd.R_nil _ _ _ _ _, below_alloc (below_alloc (Below.refl _ _) _) _⟩
theorem split_seq (s : List UInt8) (w : World) : Calls Tryz.prog 146 #[str s, .string ⟨#[38]⟩] w fun e w' => e = .returned (.func (.func 178) #[] #[.pointer (some ⟨w.heap.size + 1, 0, none⟩), .pointer (some ⟨w.heap.size, 0, none⟩), .pointer (some ⟨w.heap.size + 2, 0, none⟩)]) ∧ w' = ((w.alloc (.cells #[str s] 9)).alloc (.cells #[.string ⟨#[38]⟩] 9)).alloc (.cells #[.int .i64 0] 3) := by
 go_enter Tryz.func146, Tryz.ntmps146
 go_wp2
 go_ret
 exact ⟨rfl, rfl⟩
theorem kpsT {b : Nat} {A B C : World} (h : KpS b A B) (k : KpS b B C) : KpS b A C := ⟨k.1.trans h.1, k.2.1.trans h.2.1, k.2.2.trans h.2.2⟩
theorem box_at {w : World} {n : Nat} (t : TypeId) (v : Value) (h : w.heap.size = n) : Boxed (w.alloc (.cells #[v] t)) n t v := by rw [← h]; exact Boxed.new w t v
set_option maxHeartbeats 4000000 in
set_option maxRecDepth 100000 in
theorem query_some (s : List UInt8) (hs : s ≠ []) (hl : s.length ≤ 100000000) (w : World) : Calls Tryz.prog 103 #[str s] w (QPost w (resQ s).1 (resQ s).2) := by
 refine (callsIn_wide (n := 4)).1 ?_
 have he : (s == []) = false := by cases s with
  | nil => exact absurd rfl hs
  | cons x t => rfl
 refine callsIn_of_wp_marks Tryz.func103 rfl trivial ?_ rfl
 simp only [Tryz.ntmps103, List.size_toArray, List.length_cons, List.length_nil, Nat.reduceAdd, Nat.reduceSub, Array.replicate_succ, Array.replicate_zero, List.push_toArray, List.append_toArray, List.nil_append, List.cons_append]
 gi_wp2_with (refine ⟨trivial, ?_⟩; gi_at_call 146; refine (callsIn_wide.2 (split_seq s _)).mono ?_; rintro e w' ⟨rfl, rfl⟩)
 obtain ⟨W0, hW0⟩ : ∃ W0, (((((w.alloc (Obj.cells #[Value.slice none 0 0] 140)).alloc (Obj.cells #[Value.int IntKind.i64 0] 27)).alloc (Obj.cells #[Value.slice none 0 0] 140)).alloc (.cells #[str s] 9)).alloc (.cells #[.string ⟨#[38]⟩] 9)).alloc (.cells #[.int .i64 0] 3) = W0 := ⟨_, rfl⟩
 have hz : W0.heap.size = w.heap.size + 3 + 3 := by rw [← hW0]; simp
 have B2 : Boxed W0 w.heap.size 140 (.slice none 0 0) := by rw [← hW0]; exact (((((box_at 140 (.slice none 0 0) rfl).alloc _).alloc _).alloc _).alloc _).alloc _
 have B3 : Boxed W0 (w.heap.size + 1) 27 (.int .i64 0) := by rw [← hW0]; exact ((((box_at 27 (.int .i64 0) (by simp)).alloc _).alloc _).alloc _).alloc _
 have B4 : Boxed W0 (w.heap.size + 2) 140 (.slice none 0 0) := by rw [← hW0]; exact (((box_at 140 (.slice none 0 0) (by simp)).alloc _).alloc _).alloc _
 have C0 : Boxed W0 (w.heap.size + 3) 9 (str s) := by rw [← hW0]; exact ((box_at 9 (str s) (by simp)).alloc _).alloc _
 have C1 : Boxed W0 (w.heap.size + 3 + 1) 9 (.string ⟨#[38]⟩) := by rw [← hW0]; exact (box_at 9 _ (by simp)).alloc _
 have C2 : Boxed W0 (w.heap.size + 3 + 2) 3 (.int .i64 0) := by rw [← hW0]; exact box_at 3 _ (by simp)
 have hb0 : Below w.heap.size w W0 := by rw [← hW0]; exact below_alloc (below_alloc (below_alloc (below_alloc (below_alloc (below_alloc (Below.refl _ _) _) _) _) _) _) _
 rw [hW0]
 have h0 : QSt w (w.heap.size + 1) (w.heap.size + 2) (w.heap.size + 3) (.slice none 0 0) [] W0 := ⟨B2, B3, B4, ⟨[], World.ownsRow_nil _ _ _ _, rfl, fun j p h => by simp at h⟩, by omega, hb0⟩
 clear hW0 B2 B3 B4
 refine wpIn_rangeFunc_box (Bs := w.heap.size + 3) rfl (by decide) (gf := 178) (lb := #[.pointer (some ⟨w.heap.size + 3 + 1, 0, none⟩), .pointer (some ⟨w.heap.size + 3, 0, none⟩), .pointer (some ⟨w.heap.size + 3 + 2, 0, none⟩)]) rfl trivial (enters_of Tryz.func178 (by kernel_rfl) rfl)
  (by omega) (split_in 3 (by decide) (w.heap.size + 3) 100000000 s hl (by decide) W0 C0 C1 C2) ?kt ?kb (fun _ => rfl)
  (fun pre W => ∃ ps v, runQ pre = some ps ∧ QSt w (w.heap.size + 1) (w.heap.size + 2) (w.heap.size + 3) v ps W) (fun pre W => runQ pre = none ∧ XSt w (w.heap.size + 1) (w.heap.size + 3) W) ?bI ?bX ⟨[], _, rfl, h0⟩
  (fun x => { tmps := #[str s, undef, .pointer (some ⟨w.heap.size, 0, none⟩), .pointer (some ⟨w.heap.size + 1, 0, none⟩), .pointer (some ⟨w.heap.size + 1 + 1, 0, none⟩), str x, undef, undef, undef, undef, undef, undef, undef, undef, undef, str s, .bool false, str s, .func (.func 178) #[] #[.pointer (some ⟨w.heap.size + 3 + 1, 0, none⟩), .pointer (some ⟨w.heap.size + 3, 0, none⟩), .pointer (some ⟨w.heap.size + 3 + 2, 0, none⟩)], str x, undef, undef, undef, undef, undef, undef, undef, undef, undef, undef, undef, undef, undef, undef, undef, undef, undef, undef, undef, undef, undef, undef, undef, undef, undef, undef, undef, undef, undef, undef, undef, undef, undef, undef, undef, undef, undef, undef, undef, undef, undef, undef, undef, undef, undef, undef], defers := [] }) ?assign ?body ?done ?stop
 case kt => exact fun h k => ⟨k.1.trans h.1, k.2.1.trans h.2.1, k.2.2.trans h.2.2⟩
 case kb => exact fun W l o' hl => ⟨World.putObj_heap_other (by omega), World.putObj_heap_other (by omega), World.putObj_heap_other (by omega)⟩
 case bI =>
  rintro pre W W' row ⟨ps, v, h1, h2⟩ hg hr
  exact ⟨ps, v, h1, h2.kept (by omega) (by omega) (by omega) hg (fun r e => by rcases hr r e with h | ⟨h, k⟩; exact .inl h; exact .inr ⟨by omega, k⟩)⟩
 case bX =>
  rintro pre W W' row ⟨h1, h2⟩ hg hr
  exact ⟨h1, h2.kept (by omega) (by omega) hg (fun r e => by rcases hr r e with h | ⟨h, k⟩; exact .inl h; exact .inr ⟨by omega, k⟩)⟩
 case assign =>
  intro l x W K hK
  gi_wp2
  exact hK
 case body =>
  rintro l pre x W ⟨ps, v, hrun, hQ⟩ hx
  have hx : x.length ≤ 100000000 := hx
  have hcl := cut1_le 61 x
  have h24 := runQ_len hrun
  have hst := (runQ_snoc pre x).trans (by rw [hrun]; rfl : (runQ pre).bind (fun acc => stepQ acc x) = stepQ ps x)
  unfold stepQ badQ at hst
  obtain ⟨a, ha⟩ : ∃ a, (Uri.cut1 61 x).1 = a := ⟨_, rfl⟩
  obtain ⟨b, hb⟩ : ∃ b, (Uri.cut1 61 x).2.1 = b := ⟨_, rfl⟩
  obtain ⟨q, hq⟩ : ∃ q, (Uri.cut1 61 x).2.2 = q := ⟨_, rfl⟩
  have hC : Hid (Uri.cut1 61 x = (a, b, q)) := by show _ = _; rw [← ha, ← hb, ← hq]
  rw [ha, hb] at hst
  rw [ha, hb] at hcl
  clear ha hb hq
  obtain ⟨n, hn⟩ : ∃ n, (decR a).1 = n := ⟨_, rfl⟩
  obtain ⟨e1, he1⟩ : ∃ e, (decR a).2 = e := ⟨_, rfl⟩
  obtain ⟨vv, hv⟩ : ∃ n, (decR b).1 = n := ⟨_, rfl⟩
  obtain ⟨e2, he2⟩ : ∃ e, (decR b).2 = e := ⟨_, rfl⟩
  have hA : Hid (decR a = (n, e1)) := by show _ = _; rw [← hn, ← he1]
  have hB : Hid (decR b = (vv, e2)) := by show _ = _; rw [← hv, ← he2]
  rw [hn, he1, hv, he2] at hst
  clear hn he1 hv he2
  obtain ⟨fv, hfv⟩ : ∃ f, (findP ps ⟨n.toArray⟩).1 = f := ⟨_, rfl⟩
  obtain ⟨tw, htw⟩ : ∃ f, (findP ps ⟨n.toArray⟩).2 = f := ⟨_, rfl⟩
  have hF : Hid (uri_Find.f ps ⟨n.toArray⟩ = some (fv, tw)) := by show _ = _; unfold uri_Find.f; rw [if_pos (by omega), ← hfv, ← htw]
  rw [htw] at hst
  clear hfv htw
  obtain ⟨E, hE⟩ : ∃ E, orZ [e1, e2] = E := ⟨_, rfl⟩
  rw [hE] at hst
  have HE := Lib.hid hE
  clear hE
  have HS := Lib.hid hst
  clear hst
  obtain ⟨A, c, rfl⟩ := Kd.R_slice hQ.R
  obtain ⟨p1, hp1⟩ : ∃ p, (E != 0) = p := ⟨_, rfl⟩
  obtain ⟨p2, hp2⟩ : ∃ p, (n == []) = p := ⟨_, rfl⟩
  obtain ⟨p4, hp4⟩ : ∃ p, (ps.length == 24) = p := ⟨_, rfl⟩
  have hp4' : ((ps.length : Int) == 24) = p4 := by rw [← hp4]; cases hq : (ps.length == 24) <;> simp_all <;> omega
  have HS2 : Hid (runQ (pre ++ [x]) = if (p1 || p2 || tw || p4) = true then none else some (ps ++ [⟨⟨n.toArray⟩, ⟨vv.toArray⟩⟩])) := by show _ = _; rw [HS.out, hp1, hp2, hp4]
  clear HS
  have HQ := Aside0.mk hQ
  clear hQ
  cases p1 with
  | true =>
    gi_wp2_with (first
     | (refine ⟨trivial, ?_⟩; gi_at_call 19; refine (CallsIn.inRound l (callsIn_wide.2 (strings_cut x 61 W (by omega)))).mono ?_; rintro e w1 ⟨rfl, nd, rfl⟩; rw [hC.out])
     | (refine ⟨trivial, ?_⟩; gi_at_call 102; (with_reducible refine (CallsIn.inRound l (callsIn_wide.2 (uri_Decode a _ (by omega)))).mono ?_); rintro e w2 ⟨rfl, hb2⟩; rw [hA.out])
     | (refine ⟨trivial, ?_⟩; gi_at_call 102; (with_reducible refine (CallsIn.inRound l (callsIn_wide.2 (uri_Decode b _ (by omega)))).mono ?_); rintro e w3 ⟨rfl, hb3⟩; rw [hB.out]; have hb3' : Below W.heap.size W w3 := (show Below W.heap.size W w2 from ⟨hb2.os, hb2.tape, hb2.output, hb2.size, hb2.block⟩).trans (hb3.mono hb2.size); have HQ3 := Aside0.mk (HQ.out.below hb3'); have HB3 := Aside0.mk hb3'; have c4 := HQ3.out.b4.cell; clear hb2 hb3 hb3')
     | (refine ⟨trivial, ?_⟩; gi_at_call 147; (with_reducible refine (CallsIn.inRound l (callsIn_wide.2 (uri_Find.calls A c ps ⟨n.toArray⟩ fv _ w3 (Kd.R_reads' HQ3.out.R).2.2 (Kd.R_reads' HQ3.out.R).2.1 hF.out))).mono ?_); rintro e w4 ⟨rfl, hb4⟩; clear c4; have HQ4 := Aside0.mk (HQ3.out.below hb4); have HB4 := Aside0.mk (HB3.out.trans (hb4.mono HB3.out.size)); clear hb4)
     | (refine ⟨trivial, ?_⟩; gi_at_call 36; (with_reducible refine (CallsIn.inRound l (callsIn_wide.2 (or2 e1 e2 w4))).mono ?_); rintro e w5 ⟨rfl, hw5⟩; rw [HE.out]; have HB5 := Aside0.mk (HB4.out.trans (hw5 ▸ (below_alloc (Below.refl _ w4) _).mono HB4.out.size)); have HQ5 := Aside0.mk (HQ4.out.below (hw5 ▸ below_alloc (Below.refl _ w4) _)); clear hw5; have c4 := HQ5.out.b4.cell; have f2 := HQ5.out.b2.frozen; have f3 := HQ5.out.b3.frozen; have f4 := HQ5.out.b4.frozen; have c2 := HQ5.out.b2.cell; have c3 := HQ5.out.b3.cell))
    have hres := HS2.out
    exact ⟨(keepsB HB5.out).trans ((HQ5.out.out (by omega) (by omega) (by omega)).2 _), hres, (HQ5.out.out (by omega) (by omega) (by omega)).1⟩
  | false =>
   cases p2 with
   | true =>
     gi_wp2_with (first
      | (refine ⟨trivial, ?_⟩; gi_at_call 19; refine (CallsIn.inRound l (callsIn_wide.2 (strings_cut x 61 W (by omega)))).mono ?_; rintro e w1 ⟨rfl, nd, rfl⟩; rw [hC.out])
      | (refine ⟨trivial, ?_⟩; gi_at_call 102; (with_reducible refine (CallsIn.inRound l (callsIn_wide.2 (uri_Decode a _ (by omega)))).mono ?_); rintro e w2 ⟨rfl, hb2⟩; rw [hA.out])
      | (refine ⟨trivial, ?_⟩; gi_at_call 102; (with_reducible refine (CallsIn.inRound l (callsIn_wide.2 (uri_Decode b _ (by omega)))).mono ?_); rintro e w3 ⟨rfl, hb3⟩; rw [hB.out]; have hb3' : Below W.heap.size W w3 := (show Below W.heap.size W w2 from ⟨hb2.os, hb2.tape, hb2.output, hb2.size, hb2.block⟩).trans (hb3.mono hb2.size); have HQ3 := Aside0.mk (HQ.out.below hb3'); have HB3 := Aside0.mk hb3'; have c4 := HQ3.out.b4.cell; clear hb2 hb3 hb3')
      | (refine ⟨trivial, ?_⟩; gi_at_call 147; (with_reducible refine (CallsIn.inRound l (callsIn_wide.2 (uri_Find.calls A c ps ⟨n.toArray⟩ fv _ w3 (Kd.R_reads' HQ3.out.R).2.2 (Kd.R_reads' HQ3.out.R).2.1 hF.out))).mono ?_); rintro e w4 ⟨rfl, hb4⟩; clear c4; have HQ4 := Aside0.mk (HQ3.out.below hb4); have HB4 := Aside0.mk (HB3.out.trans (hb4.mono HB3.out.size)); clear hb4)
      | (refine ⟨trivial, ?_⟩; gi_at_call 36; (with_reducible refine (CallsIn.inRound l (callsIn_wide.2 (or2 e1 e2 w4))).mono ?_); rintro e w5 ⟨rfl, hw5⟩; rw [HE.out]; have HB5 := Aside0.mk (HB4.out.trans (hw5 ▸ (below_alloc (Below.refl _ w4) _).mono HB4.out.size)); have HQ5 := Aside0.mk (HQ4.out.below (hw5 ▸ below_alloc (Below.refl _ w4) _)); clear hw5; have c4 := HQ5.out.b4.cell; have f2 := HQ5.out.b2.frozen; have f3 := HQ5.out.b3.frozen; have f4 := HQ5.out.b4.frozen; have c2 := HQ5.out.b2.cell; have c3 := HQ5.out.b3.cell))
     have hres := HS2.out
     exact ⟨(keepsB HB5.out).trans ((HQ5.out.out (by omega) (by omega) (by omega)).2 _), hres, (HQ5.out.out (by omega) (by omega) (by omega)).1⟩
   | false =>
    cases tw with
    | true =>
      gi_wp2_with (first
       | (refine ⟨trivial, ?_⟩; gi_at_call 19; refine (CallsIn.inRound l (callsIn_wide.2 (strings_cut x 61 W (by omega)))).mono ?_; rintro e w1 ⟨rfl, nd, rfl⟩; rw [hC.out])
       | (refine ⟨trivial, ?_⟩; gi_at_call 102; (with_reducible refine (CallsIn.inRound l (callsIn_wide.2 (uri_Decode a _ (by omega)))).mono ?_); rintro e w2 ⟨rfl, hb2⟩; rw [hA.out])
       | (refine ⟨trivial, ?_⟩; gi_at_call 102; (with_reducible refine (CallsIn.inRound l (callsIn_wide.2 (uri_Decode b _ (by omega)))).mono ?_); rintro e w3 ⟨rfl, hb3⟩; rw [hB.out]; have hb3' : Below W.heap.size W w3 := (show Below W.heap.size W w2 from ⟨hb2.os, hb2.tape, hb2.output, hb2.size, hb2.block⟩).trans (hb3.mono hb2.size); have HQ3 := Aside0.mk (HQ.out.below hb3'); have HB3 := Aside0.mk hb3'; have c4 := HQ3.out.b4.cell; clear hb2 hb3 hb3')
       | (refine ⟨trivial, ?_⟩; gi_at_call 147; (with_reducible refine (CallsIn.inRound l (callsIn_wide.2 (uri_Find.calls A c ps ⟨n.toArray⟩ fv _ w3 (Kd.R_reads' HQ3.out.R).2.2 (Kd.R_reads' HQ3.out.R).2.1 hF.out))).mono ?_); rintro e w4 ⟨rfl, hb4⟩; clear c4; have HQ4 := Aside0.mk (HQ3.out.below hb4); have HB4 := Aside0.mk (HB3.out.trans (hb4.mono HB3.out.size)); clear hb4)
       | (refine ⟨trivial, ?_⟩; gi_at_call 36; (with_reducible refine (CallsIn.inRound l (callsIn_wide.2 (or2 e1 e2 w4))).mono ?_); rintro e w5 ⟨rfl, hw5⟩; rw [HE.out]; have HB5 := Aside0.mk (HB4.out.trans (hw5 ▸ (below_alloc (Below.refl _ w4) _).mono HB4.out.size)); have HQ5 := Aside0.mk (HQ4.out.below (hw5 ▸ below_alloc (Below.refl _ w4) _)); clear hw5; have c4 := HQ5.out.b4.cell; have f2 := HQ5.out.b2.frozen; have f3 := HQ5.out.b3.frozen; have f4 := HQ5.out.b4.frozen; have c2 := HQ5.out.b2.cell; have c3 := HQ5.out.b3.cell))
      have hres := HS2.out
      exact ⟨(keepsB HB5.out).trans ((HQ5.out.out (by omega) (by omega) (by omega)).2 _), hres, (HQ5.out.out (by omega) (by omega) (by omega)).1⟩
    | false =>
     cases p4 with
     | true =>
       gi_wp2_with (first
        | (refine ⟨trivial, ?_⟩; gi_at_call 19; refine (CallsIn.inRound l (callsIn_wide.2 (strings_cut x 61 W (by omega)))).mono ?_; rintro e w1 ⟨rfl, nd, rfl⟩; rw [hC.out])
        | (refine ⟨trivial, ?_⟩; gi_at_call 102; (with_reducible refine (CallsIn.inRound l (callsIn_wide.2 (uri_Decode a _ (by omega)))).mono ?_); rintro e w2 ⟨rfl, hb2⟩; rw [hA.out])
        | (refine ⟨trivial, ?_⟩; gi_at_call 102; (with_reducible refine (CallsIn.inRound l (callsIn_wide.2 (uri_Decode b _ (by omega)))).mono ?_); rintro e w3 ⟨rfl, hb3⟩; rw [hB.out]; have hb3' : Below W.heap.size W w3 := (show Below W.heap.size W w2 from ⟨hb2.os, hb2.tape, hb2.output, hb2.size, hb2.block⟩).trans (hb3.mono hb2.size); have HQ3 := Aside0.mk (HQ.out.below hb3'); have HB3 := Aside0.mk hb3'; have c4 := HQ3.out.b4.cell; clear hb2 hb3 hb3')
        | (refine ⟨trivial, ?_⟩; gi_at_call 147; (with_reducible refine (CallsIn.inRound l (callsIn_wide.2 (uri_Find.calls A c ps ⟨n.toArray⟩ fv _ w3 (Kd.R_reads' HQ3.out.R).2.2 (Kd.R_reads' HQ3.out.R).2.1 hF.out))).mono ?_); rintro e w4 ⟨rfl, hb4⟩; clear c4; have HQ4 := Aside0.mk (HQ3.out.below hb4); have HB4 := Aside0.mk (HB3.out.trans (hb4.mono HB3.out.size)); clear hb4)
        | (refine ⟨trivial, ?_⟩; gi_at_call 36; (with_reducible refine (CallsIn.inRound l (callsIn_wide.2 (or2 e1 e2 w4))).mono ?_); rintro e w5 ⟨rfl, hw5⟩; rw [HE.out]; have HB5 := Aside0.mk (HB4.out.trans (hw5 ▸ (below_alloc (Below.refl _ w4) _).mono HB4.out.size)); have HQ5 := Aside0.mk (HQ4.out.below (hw5 ▸ below_alloc (Below.refl _ w4) _)); clear hw5; have c4 := HQ5.out.b4.cell; have f2 := HQ5.out.b2.frozen; have f3 := HQ5.out.b3.frozen; have f4 := HQ5.out.b4.frozen; have c2 := HQ5.out.b2.cell; have c3 := HQ5.out.b3.cell))
       have hres := HS2.out
       exact ⟨(keepsB HB5.out).trans ((HQ5.out.out (by omega) (by omega) (by omega)).2 _), hres, (HQ5.out.out (by omega) (by omega) (by omega)).1⟩
     | false =>
      obtain ⟨i0, hi, hz0, hz1, hz2⟩ := info_parts info185
      gi_wp2_with (first
       | (refine ⟨trivial, ?_⟩; gi_at_call 19; refine (CallsIn.inRound l (callsIn_wide.2 (strings_cut x 61 W (by omega)))).mono ?_; rintro e w1 ⟨rfl, nd, rfl⟩; rw [hC.out])
       | (refine ⟨trivial, ?_⟩; gi_at_call 102; (with_reducible refine (CallsIn.inRound l (callsIn_wide.2 (uri_Decode a _ (by omega)))).mono ?_); rintro e w2 ⟨rfl, hb2⟩; rw [hA.out])
       | (refine ⟨trivial, ?_⟩; gi_at_call 102; (with_reducible refine (CallsIn.inRound l (callsIn_wide.2 (uri_Decode b _ (by omega)))).mono ?_); rintro e w3 ⟨rfl, hb3⟩; rw [hB.out]; have hb3' : Below W.heap.size W w3 := (show Below W.heap.size W w2 from ⟨hb2.os, hb2.tape, hb2.output, hb2.size, hb2.block⟩).trans (hb3.mono hb2.size); have HQ3 := Aside0.mk (HQ.out.below hb3'); have HB3 := Aside0.mk hb3'; have c4 := HQ3.out.b4.cell; clear hb2 hb3 hb3')
       | (refine ⟨trivial, ?_⟩; gi_at_call 147; (with_reducible refine (CallsIn.inRound l (callsIn_wide.2 (uri_Find.calls A c ps ⟨n.toArray⟩ fv _ w3 (Kd.R_reads' HQ3.out.R).2.2 (Kd.R_reads' HQ3.out.R).2.1 hF.out))).mono ?_); rintro e w4 ⟨rfl, hb4⟩; clear c4; have HQ4 := Aside0.mk (HQ3.out.below hb4); have HB4 := Aside0.mk (HB3.out.trans (hb4.mono HB3.out.size)); clear hb4)
       | (refine ⟨trivial, ?_⟩; gi_at_call 36; (with_reducible refine (CallsIn.inRound l (callsIn_wide.2 (or2 e1 e2 w4))).mono ?_); rintro e w5 ⟨rfl, hw5⟩; rw [HE.out]; have HB5 := Aside0.mk (HB4.out.trans (hw5 ▸ (below_alloc (Below.refl _ w4) _).mono HB4.out.size)); have HQ5 := Aside0.mk (HQ4.out.below (hw5 ▸ below_alloc (Below.refl _ w4) _)); clear hw5; have c4 := HQ5.out.b4.cell; have f2 := HQ5.out.b2.frozen; have f3 := HQ5.out.b3.frozen; have f4 := HQ5.out.b4.frozen; have c2 := HQ5.out.b2.cell; have c3 := HQ5.out.b3.cell)
       | (gi_at_builtin; go_must (obtain ⟨inner, hin1, hin2⟩ := HQ5.out.row; refine wpListIn_append_own _ rfl _ _ 140 rfl (w.heap.size + 3 + 3) 185 i0 (.agg #[(.string ⟨#[]⟩), (.string ⟨#[]⟩)]) 2 32 Tryz.underlying140 hi hz0 hz1 hz2 rfl (by decide) _ _ _ rfl (hin1.alloc _) ⟨w5.heap.size, 0, none⟩ 1 1 [.string ⟨n.toArray⟩, .string ⟨vv.toArray⟩] rfl rfl (news_alloc _ _ _) (by simp [Value.oneCell']) (by simp [maxLen]; omega) (by omega) (by have := HQ5.out.sz; simp; omega) ?_; intro v' w6 hown6 hgrow6 _; have hmore := HQ5.out.more (x := ⟨⟨n.toArray⟩, ⟨vv.toArray⟩⟩) (by omega) (by omega) (by omega) (by omega) (by omega) (by omega) hin1 hin2 hown6 hgrow6; obtain ⟨g', cap', rfl⟩ := ownsRow_succ hown6; have fz := hmore.1.frozen; have cz := hmore.1.cell; have HM := Aside0.mk hmore.2; clear hmore c4 c2 c3 f2 f3 f4; clear hin1 hin2 hown6 hgrow6)))
      have hres := HS2.out
      exact ⟨(keepsB HB5.out).trans (HM.out.2.1 _), (kpsT (kpsB HQ.out.sz HB5.out) HM.out.2.2), _, _, hres, HM.out.1⟩
 case done =>
  rintro D W hD ⟨ps, v, hrun, hQ⟩ hK
  have hres : resQ s = (ps, 0) := by unfold resQ; rw [if_neg hs, hrun]
  have HR := Lib.hid hres
  clear hres
  obtain ⟨A, c, rfl⟩ := Kd.R_slice hQ.R
  have HQ := Aside0.mk hQ
  have c4 := hQ.b4.cell
  have f2 := hQ.b2.frozen
  have f3 := hQ.b3.frozen
  have c2 := hQ.b2.cell
  have c3 := hQ.b3.cell
  have HK := Aside0.mk hK
  clear hK hQ hrun
  gi_wp2
  have hk2 := ((KeepsOthers.setCell W ⟨w.heap.size, 0, none⟩ (.slice A ps.length c)).trans (KeepsOthers.setCell _ ⟨w.heap.size + 1, 0, none⟩ (.int .i64 0))).same D _ HK.out rfl
  refine ⟨by simp, .inl ⟨_, _, rfl, run_takeDeferred hk2, ?_⟩⟩
  obtain ⟨W2, hW2⟩ : ∃ W2, (W.setCell ⟨w.heap.size, 0, none⟩ (.slice A ps.length c)).setCell ⟨w.heap.size + 1, 0, none⟩ (.int .i64 0) = W2 := ⟨_, rfl⟩
  have q2 : Boxed W2 w.heap.size 140 (.slice A ps.length c) := by rw [← hW2]; exact (HQ.out.b2.set _).kept (grownBy_setCell' _ _ _) (by intro e; injection e with e; omega)
  have q3 : Boxed W2 (w.heap.size + 1) 27 (.int .i64 0) := by rw [← hW2]; exact (HQ.out.b3.kept (grownBy_setCell' _ _ _) (by intro e; injection e with e; omega)).set _
  have q4 : OwnRow Rp 185 2 W2 (w.heap.size + 3 + 3) (.slice A ps.length c) ps := by
   rw [← hW2]
   exact row_kept (row_kept HQ.out.row (grownBy_setCell' _ _ _) (fun r e => by injection e with e; exact .inl (by omega))) (grownBy_setCell' _ _ _) (fun r e => by injection e with e; exact .inl (by omega))
  have q5 : Below w.heap.size w W2 := by rw [← hW2]; exact (HQ.out.bl.setCell (p := ⟨w.heap.size, 0, none⟩) (Nat.le_refl _) _).setCell (p := ⟨w.heap.size + 1, 0, none⟩) (by simp) _
  rw [hW2] at hk2 ⊢
  clear hW2 c4 f2 f3 c2 c3
  have r2 := (q2.kept (grownBy_putObj' W2 D (.deferred none)) (by intro e; injection e with e; omega)).cell
  have r3 := (q3.kept (grownBy_putObj' W2 D (.deferred none)) (by intro e; injection e with e; omega)).cell
  have r4 := row_kept q4 (grownBy_putObj' W2 D (.deferred none)) (fun r e => by injection e with e; subst e; exact .inr ⟨_, hk2, rfl⟩)
  have r5 : Below w.heap.size w (W2.putObj D (.deferred none)) := q5.grown (grownBy_putObj' W2 D (.deferred none)) q5.size (fun k e => by injection e with e; omega)
  refine ⟨.tuple #[.slice A ps.length c, .int .i64 0], by simp [results, Tryz.results103, go_sem, r2, r3], ?_⟩
  rw [HR.out]
  exact ⟨_, rfl, Kd.R_lower (show Kd.R k185 185 _ (w.heap.size + 3 + 3) (fun _ => True) _ ps from ⟨fun _ _ => trivial, OwnRow.imp_ r4 (fun p c e => by rw [show c = _ from e]; exact k185_mkM _ _ _ _)⟩) (by omega), r5⟩
 case stop =>
  rintro D pre W hD hpre ⟨hrun, hX⟩ hK
  have hres : resQ s = ([], 13) := by unfold resQ; rw [if_neg hs, runQ_prefix hpre hrun]
  have HR := Lib.hid hres
  clear hres
  have c2 := hX.b2.cell
  have c3 := hX.b3.cell
  gi_wp2
  refine ⟨by simp, .inl ⟨_, _, rfl, run_takeDeferred hK, ?_⟩⟩
  have r2 := (hX.b2.kept (grownBy_putObj' W D (.deferred none)) (by intro e; injection e with e; omega)).cell
  have r3 := (hX.b3.kept (grownBy_putObj' W D (.deferred none)) (by intro e; injection e with e; omega)).cell
  have r5 : Below w.heap.size w (W.putObj D (.deferred none)) := hX.bl.grown (grownBy_putObj' W D (.deferred none)) hX.bl.size (fun k e => by injection e with e; omega)
  refine ⟨.tuple #[.slice none 0 0, .int .i64 13], by simp [results, Tryz.results103, go_sem, r2, r3], ?_⟩
  rw [HR.out]
  exact ⟨_, rfl, Kd.R_nil _ _ _ _ _, r5⟩
theorem query_any (s : List UInt8) (hl : s.length ≤ 100000000) (w : World) : Calls Tryz.prog 103 #[str s] w (QPost w (resQ s).1 (resQ s).2) := by
 by_cases hs : s = []
 rotate_left
 ·exact query_some s hs hl w
 subst hs; exact query_nil w
def uri_Query.f (a0 : ByteArray) : Option (List S185 × Int) := if a0.size ≤ 100000000 then some (resQ (bl a0)) else none
set_option maxRecDepth 100000 in
set_option maxHeartbeats 4000000 in
theorem uri_Query.calls (a0 : ByteArray) (r1 : List S185) (r2 : Int) (w : World) (h : uri_Query.f a0 = some (r1, r2)) :
  Calls Tryz.prog 103 #[.string a0] w fun e w' => ∃ v0_ : Value, e = .returned (.tuple #[v0_, .int .i64 r2]) ∧ Kd.R k185 185 w' w.heap.size (fun _ => True) v0_ r1 ∧ Below w.heap.size w w' := by
 unfold uri_Query.f at h
 split at h
 case isFalse => cases h
 case isTrue hl =>
 have h1 := Option.some.inj h
 have h2 := query_any a0.data.toList (by rw [← Lib.size_eq]; exact hl) w
 rw [show resQ a0.data.toList = (r1, r2) from h1] at h2
 have e : str a0.data.toList = .string a0 := congrArg Value.string (Lib.mk_data a0)
 rw [e] at h2
 exact h2
def uri_Encode.f (a0 : ByteArray) (a1 : Bool) : Option (ByteArray) := if a0.size ≤ 100000000 then some (ba (Uri.enc a1 (bl a0))) else none
set_option maxRecDepth 100000 in
set_option maxHeartbeats 4000000 in
theorem uri_Encode.calls (a0 : ByteArray) (a1 : Bool) (r : ByteArray) (w : World) (h : uri_Encode.f a0 a1 = some r) :
  Calls Tryz.prog 104 #[.string a0, .bool a1] w fun e w' => e = .returned (.string r) ∧ Below w.heap.size w w' := by
 unfold uri_Encode.f at h
 split at h
 case isFalse => cases h
 case isTrue hl =>
 obtain rfl := Option.some.inj h
 have := uri_Encode (bl a0) a1 w (by show a0.size ≤ _; omega)
 rwa [show str (bl a0) = .string a0 from congrArg Value.string (Lib.mk_data a0)] at this
def prs (l : List S185) : List Uri.Pr := l.map fun x => (x.f0.data.toList, x.f1.data.toList)
theorem prow_of (w : World) (A : Option Addr) (l : List S185) (h : Kd.C k185 w A l.length l) : PRow w A (prs l) := by
 intro h0
 rw [prs, List.length_map] at h0
 obtain ⟨ad, hA, c0, c1⟩ := at_T185 h ((0 : Nat) : Int) (by omega) (by omega)
 simp only [Int.toNat_natCast] at c0 c1
 have hsp := World.cell?_spot c0
 obtain ⟨g, o, sp⟩ := ad
 have hsp' : sp = none := by
  unfold Addr.add at hsp
  split at hsp
  ·exact hsp
  ·rename_i h9; exact absurd rfl h9
 subst hsp'
 rw [Addr.add_lit] at c0
 refine ⟨g, o, hA, World.block_lt_of_cell? w _ c0, fun j hj => ?_⟩
 rw [prs, List.length_map] at hj
 obtain ⟨ad2, hA2, d0, d1⟩ := at_T185 h (j : Int) (by omega) (by omega)
 rw [hA] at hA2
 cases hA2
 simp only [Int.toNat_natCast, Addr.add_lit] at d0 d1
 have e : rd_T185 l (j : Int) = l[j] := by unfold rd_T185; rw [Int.toNat_natCast, List.getD_eq_getElem?_getD, List.getElem?_eq_getElem hj]; rfl
 rw [e] at d0 d1
 rw [prs, List.getD_eq_getElem?_getD, List.getElem?_map, List.getElem?_eq_getElem hj]
 show w.cell? ⟨g, o + j * 2, none⟩ = some (str l[j].f0.data.toList) ∧ w.cell? ⟨g, o + j * 2 + 1, none⟩ = some (str l[j].f1.data.toList)
 rw [show str l[j].f0.data.toList = .string l[j].f0 from congrArg Value.string (Lib.mk_data _), show str l[j].f1.data.toList = .string l[j].f1 from congrArg Value.string (Lib.mk_data _)]
 exact ⟨d0, d1⟩
def uri_Canon.f (l0 : List S185) : Option ByteArray := if l0.length ≤ 1000 ∧ ∀ x ∈ l0, x.f0.size + x.f1.size ≤ 100000 then some ⟨(Uri.canon (prs l0)).toArray⟩ else none
set_option maxRecDepth 100000 in
set_option maxHeartbeats 4000000 in
theorem uri_Canon.calls (A0 : Option Addr) (c0 : Nat) (l0 : List S185) (r : ByteArray) (w : World) (hr0 : Kd.C k185 w A0 l0.length l0) (hc0 : l0.length ≤ c0) (h : uri_Canon.f l0 = some r) :
  Calls Tryz.prog 105 #[.slice A0 l0.length c0] w fun e w' => e = .returned (.string r) ∧ Below w.heap.size w w' := by
 unfold uri_Canon.f at h
 split at h
 case isFalse => cases h
 case isTrue hl =>
 obtain rfl := Option.some.inj h
 have h1 := uri_Canon (prs l0) A0 c0 w (prow_of w A0 l0 hr0) (by rw [prs, List.length_map]; exact hl.1) (fun k hk => by
  rw [prs, List.length_map] at hk
  have hm := hl.2 l0[k] (List.getElem_mem hk)
  rw [prs, List.getD_eq_getElem?_getD, List.getElem?_map, List.getElem?_eq_getElem hk]
  rw [Lib.size_eq, Lib.size_eq] at hm
  exact hm)
 rw [show (prs l0).length = l0.length by rw [prs, List.length_map]] at h1
 exact h1
end Go.Proofs.YtghcadbmjglidaaGreatDoor.PSg
end
section
namespace Go.Proofs.YtghcadbmjglidaaGreatDoor.PSg
open Go.RowKit Go.Proofs.YtghcadbmjglidaaGreatDoorW.PrintWords Go.Proofs.YtghcadbmjglidaaGreatDoorW.PrintLast Go.Proofs.YtghcadbmjglidaaGreatDoorW.PrintMore
attribute [local go_sem] max2_int min2_int max_two min_two max_three min_three max_four min_four
set_option linter.unusedVariables false
set_option linter.unusedSimpArgs false
def sigv4_Canonical.l0 : Nat → List ByteArray → Int → Int → List ByteArray → List ByteArray → Int → Int → ByteArray → ByteArray → ByteArray → List (S55) → List Int → Option (ByteArray × Int)
 | 0, _, _, _, _, _, _, _, _, _, _, _, _ => none
 | k + 1, x1, x7, x9, x10, x37, x38, x39, x135000, x135001, x135002, x135003, x135004 => if x39 < x38 then (if 0 ≤ x39 then (if x39 < (x37.length : Int) then ((request_Get.f x135000 x135001 x135002 x135003 x135004 (rdOf ByteArray.empty x37 x39)).bind fun bt148 => (if bt148.2 = true then (if (rdOf ByteArray.empty x37 x39).size + 1 ≤ 9223372036854775807 then (if ((rdOf ByteArray.empty x37 x39) ++ (⟨#[58]⟩ : ByteArray)).size + bt148.1.size ≤ 9223372036854775807 then (if x10.length < 8796093022208 then (sigv4_Canonical.l0 k x1 x7 x9 (x10 ++ [((rdOf ByteArray.empty x37 x39) ++ (⟨#[58]⟩ : ByteArray)) ++ bt148.1]) x37 x38 (wrap64 (x39 + 1)) x135000 x135001 x135002 x135003 x135004) else (none)) else (none)) else (none)) else (some ((⟨#[]⟩ : ByteArray), 11)))) else (none)) else (none)) else ((api_Errno.f k (([x7, x9] : List Int))).bind fun t156 => (if t156 = 0 then ((strings_Join.f x1 (⟨#[59]⟩ : ByteArray)).bind fun t157 => ((digest_Sha256.f x135004).bind fun t158 => ((digest_Hex.f t158).bind fun t161 => ((some (([(⟨#[]⟩ : ByteArray), t157, t161] : List ByteArray) : List ByteArray)).bind fun y162 => (if x10.length + y162.length < 8796093022208 then ((strings_Join.f (x10 ++ y162) (⟨#[10]⟩ : ByteArray)).bind fun t168 => (some (t168, 0))) else (none)))))) else (some ((⟨#[]⟩ : ByteArray), 13))))
def sigv4_Canonical.f (k : Nat) (a0_0 : ByteArray) (a0_1 : ByteArray) (a0_2 : ByteArray) (l0_3 : List (S55)) (l0_4 : List Int) (l1 : List ByteArray) : Option (ByteArray × Int) := (sigv4_names.f k l1).bind fun t135 => (if t135 = true then ((uri_Decode.f a0_1).bind fun bt136 => ((uri_Query.f a0_2).bind fun bt138 => ((uri_Encode.f bt136.1 true).bind fun t142 => ((uri_Canon.f bt138.1).bind fun t143 => (sigv4_Canonical.l0 k l1 bt136.2 bt138.2 (([a0_0, t142, t143] : List ByteArray)) l1 (l1.length : Int) 0 a0_0 a0_1 a0_2 l0_3 l0_4))))) else (some ((⟨#[]⟩ : ByteArray), 11)))
def sigv4_Canonical.T5 : Bool × List (List Nat × List Nat) := (true, [([], []), ([0], [0]), ([], []), ([2], [2]), ([], []), ([4, 3], [4]), ([1, 3, 5], [1, 3, 5]), ([6, 5, 0, 1, 2, 3, 4, 5, 6], [6])])
def sigv4_Canonical.B5 : List Nat := [0, 1, 0, 4, 0, 28, 63, 127]
theorem sigv4_Canonical.tab5 : rtab .any (opsOf Tryz.f61 5) = sigv4_Canonical.T5 := by kernel_rfl
theorem sigv4_Canonical.bits5 : waitsOk sigv4_Canonical.T5.2 sigv4_Canonical.B5 = true := by kernel_rfl
def sigv4_Canonical.T16 : Bool × List (List Nat × List Nat) := (true, [([], []), ([], []), ([1], [1]), ([], []), ([3], [3]), ([4, 2], [4]), ([5, 5], [5]), ([2, 6], [2, 6]), ([0, 7, 6], [0, 7]), ([8, 8, 0, 1, 2, 3, 4, 5, 6, 7, 8], [0, 8])])
def sigv4_Canonical.B16 : List Nat := [0, 0, 2, 0, 8, 30, 62, 126, 255, 511]
theorem sigv4_Canonical.tab16 : rtab .any (opsOf Tryz.f61 16) = sigv4_Canonical.T16 := by kernel_rfl
theorem sigv4_Canonical.bits16 : waitsOk sigv4_Canonical.T16.2 sigv4_Canonical.B16 = true := by kernel_rfl
set_option maxHeartbeats 8000000 in
set_option maxRecDepth 100000 in
theorem sigv4_Canonical.calls (k : Nat) (a0_0 : ByteArray) (a0_1 : ByteArray) (a0_2 : ByteArray) (A0_3 : Option Addr) (c0_3 : Nat) (l0_3 : List (S55)) (A0_4 : Option Addr) (c0_4 : Nat) (l0_4 : List Int) (A1 : Option Addr) (c1 : Nat) (l1 : List ByteArray) (r1 : ByteArray) (r2 : Int) (w : World) (hr0_3 : Kd.C k55 w A0_3 l0_3.length l0_3) (hc0_3 : l0_3.length ≤ c0_3) (hr0_4 : Kd.C (Kd.int .u8) w A0_4 l0_4.length l0_4) (hc0_4 : l0_4.length ≤ c0_4) (hr1 : Kd.C Kd.string w A1 l1.length l1) (hc1 : l1.length ≤ c1) (h : sigv4_Canonical.f k a0_0 a0_1 a0_2 l0_3 l0_4 l1 = some (r1, r2)) :
  Calls Tryz.prog 61 #[.agg #[.string a0_0, .string a0_1, .string a0_2, .slice A0_3 l0_3.length c0_3, .slice A0_4 l0_4.length c0_4], .slice A1 l1.length c1] w fun e w' => e = .returned (.tuple #[.string r1, .int .i64 r2]) ∧ Below w.heap.size w w' := by
 have hu44 := Tryz.underlying44
 have HR0_3 := Aside0.mk hr0_3
 have HC0_3 := Aside0.mk hc0_3
 clear hr0_3 hc0_3
 have HR0_4 := Aside0.mk hr0_4
 have HC0_4 := Aside0.mk hc0_4
 clear hr0_4 hc0_4
 have HR1 := Aside0.mk hr1
 have HC1 := Aside0.mk hc1
 clear hr1 hc1
 have HB := Aside0.mk (Below.refl w.heap.size w)
 have H : ((sigv4_names.f k l1).bind fun t135 => (if t135 = true then ((uri_Decode.f a0_1).bind fun bt136 => ((uri_Query.f a0_2).bind fun bt138 => ((uri_Encode.f bt136.1 true).bind fun t142 => ((uri_Canon.f bt138.1).bind fun t143 => (sigv4_Canonical.l0 k l1 bt136.2 bt138.2 (([a0_0, t142, t143] : List ByteArray)) l1 (l1.length : Int) 0 a0_0 a0_1 a0_2 l0_3 l0_4))))) else (some ((⟨#[]⟩ : ByteArray), 11)))) = some (r1, r2) := h
 clear h
 replace H := Option.bind_eq_some_iff.mp H
 obtain ⟨t135, A30, H⟩ := H
 replace H : (if t135 = true then ((uri_Decode.f a0_1).bind fun bt136 => ((uri_Query.f a0_2).bind fun bt138 => ((uri_Encode.f bt136.1 true).bind fun t142 => ((uri_Canon.f bt138.1).bind fun t143 => (sigv4_Canonical.l0 k l1 bt136.2 bt138.2 (([a0_0, t142, t143] : List ByteArray)) l1 (l1.length : Int) 0 a0_0 a0_1 a0_2 l0_3 l0_4))))) else (some ((⟨#[]⟩ : ByteArray), 11))) = some (r1, r2) := H
 have A3 := Aside0.mk A30
 clear A30
 by_cases c4 : t135 = true
 rotate_left
 ·replace c4 := Bool.eq_false_iff.mpr c4
  subst c4
  have H1 : (some ((⟨#[]⟩ : ByteArray), 11)) = some (r1, r2) := by rw [if_neg (show ¬ (false = true) by decide)] at H; exact H
  clear H
  have H := H1
  clear H1
  simp only [Option.some.injEq, Prod.mk.injEq] at H
  obtain ⟨rfl, rfl⟩ := H
  go_enter Tryz.func61, Tryz.ntmps61
  go_wp2_with (first | ((with_reducible refine gate_dst (N := 2) rfl ?_); refine box_event ?hg (N := 2) ?hd (cs := #[.string a0_0, .string a0_1, .string a0_2, .slice A0_3 l0_3.length c0_3, .slice A0_4 l0_4.length c0_4]) (t := 44) ?hr ?_; (case hd => rfl); (case hg => rfl); (case hr => first | (go_simp; done) | (go_simp; rfl)); intro gb134 hg w58 hbox hb; have n0_ := Aside0.mk (below_step hb0_ hb); have n1_ := Aside0.mk (hbox); have n2_ := Aside0.mk ((by rw [hg]; exact (below_size hb0_) : w.heap.size ≤ gb134)); have n3_ := Aside0.mk ((by rw [hg]; exact (below_size hb0_) : w.heap.size ≤ gb134)); clear HB; have HB := n0_; have BK134 := n1_; have GW134 := n2_; have GE134 := n3_; clear n0_ n1_ n2_ n3_; clear hb hbox hg) | ((with_reducible refine gate_callee (f := 48) rfl ?_); refine goesL_ (some 16) rfl rfl Tryz.func48 (by kernel_rfl) rfl #[.slice A1 l1.length c1] rfl (by (try simp only [List.map_toArray, List.map_cons, List.map_nil]); first | done | rfl | (simp only [List.length_drop, List.length_take]; rfl)) ?_; (with_reducible refine (sigv4_names.calls _ _ _ _ _ _ ?side1 ?side2 A3.out).mono ?_); (case side1 => repeat (first | exact (Kd.C_below HR1.out HB.out) | (with_reducible refine Kd.C_alloc ?_ _) | (with_reducible refine Kd.C_drewN ?_ _) | (with_reducible refine Kd.C_drew ?_))); (case side2 => exact HC1.out); rintro e w59 ⟨rfl, hb⟩; refine ⟨_, rfl, ?_⟩; have n0_ := Aside0.mk (blk_below (g := gb134) (o := .cells #[.string a0_0, .string a0_1, .string a0_2, .slice A0_3 l0_3.length c0_3, .slice A0_4 l0_4.length c0_4] 44 (0, 0)) (by (with_reducible repeat (first | refine blk_drewN ?_ _ | refine blk_drew ?_ | refine blk_alloc ?_ _)); exact BK134.out) hb); have n1_ := Aside0.mk (below_step hb1_ hb); clear BK134; clear HB; have BK134 := n0_; have HB := n1_; clear n0_ n1_; (try clear hb); (try clear hb2); (try clear hk); (try clear hi)))
  go_ret2
  exact ⟨by first | rfl | (simp [errW_none, errW_some] <;> rfl) | (simp [*, errW_none, errW_some] <;> rfl), hb1_⟩
 subst c4
 have H1 : ((uri_Decode.f a0_1).bind fun bt136 => ((uri_Query.f a0_2).bind fun bt138 => ((uri_Encode.f bt136.1 true).bind fun t142 => ((uri_Canon.f bt138.1).bind fun t143 => (sigv4_Canonical.l0 k l1 bt136.2 bt138.2 (([a0_0, t142, t143] : List ByteArray)) l1 (l1.length : Int) 0 a0_0 a0_1 a0_2 l0_3 l0_4))))) = some (r1, r2) := by rw [if_pos rfl] at H; exact H
 clear H
 have H := H1
 clear H1
 replace H := Option.bind_eq_some_iff.mp H
 obtain ⟨⟨t136, t137⟩, A50, H⟩ := H
 replace H : ((uri_Query.f a0_2).bind fun bt138 => ((uri_Encode.f t136 true).bind fun t142 => ((uri_Canon.f bt138.1).bind fun t143 => (sigv4_Canonical.l0 k l1 t137 bt138.2 (([a0_0, t142, t143] : List ByteArray)) l1 (l1.length : Int) 0 a0_0 a0_1 a0_2 l0_3 l0_4)))) = some (r1, r2) := H
 have A5 := Aside0.mk A50
 clear A50
 replace H := Option.bind_eq_some_iff.mp H
 obtain ⟨⟨t138, t139⟩, A60, H⟩ := H
 replace H : ((uri_Encode.f t136 true).bind fun t142 => ((uri_Canon.f t138).bind fun t143 => (sigv4_Canonical.l0 k l1 t137 t139 (([a0_0, t142, t143] : List ByteArray)) l1 (l1.length : Int) 0 a0_0 a0_1 a0_2 l0_3 l0_4))) = some (r1, r2) := H
 have A6 := Aside0.mk A60
 clear A60
 replace H := Option.bind_eq_some_iff.mp H
 obtain ⟨t142, A70, H⟩ := H
 replace H : ((uri_Canon.f t138).bind fun t143 => (sigv4_Canonical.l0 k l1 t137 t139 (([a0_0, t142, t143] : List ByteArray)) l1 (l1.length : Int) 0 a0_0 a0_1 a0_2 l0_3 l0_4)) = some (r1, r2) := H
 have A7 := Aside0.mk A70
 clear A70
 replace H := Option.bind_eq_some_iff.mp H
 obtain ⟨t143, A80, H⟩ := H
 replace H : (sigv4_Canonical.l0 k l1 t137 t139 (([a0_0, t142, t143] : List ByteArray)) l1 (l1.length : Int) 0 a0_0 a0_1 a0_2 l0_3 l0_4) = some (r1, r2) := H
 have A8 := Aside0.mk A80
 clear A80
 obtain ⟨y144, hy144⟩ : ∃ y_ : List ByteArray, y_ = (([a0_0, t142, t143] : List ByteArray)) := ⟨_, rfl⟩
 replace H : (sigv4_Canonical.l0 k l1 t137 t139 y144 l1 (l1.length : Int) 0 a0_0 a0_1 a0_2 l0_3 l0_4) = some (r1, r2) := by first | (rw [hy144]; with_reducible exact H) | (have H2_ := (Option.bind_some _ _).symm.trans H; rw [hy144]; with_reducible exact H2_) | (have H2_ := (Option.bind_some _ _).symm.trans H; with_reducible exact H2_) | with_reducible exact H | (rw [hy144]; exact H) | exact H
 have Ny144 := Aside0.mk hy144
 clear hy144
 have H' := Aside0.mk H
 clear H
 go_enter Tryz.func61, Tryz.ntmps61
 try go_wp2_with (first | ((with_reducible refine gate_dst (N := 2) rfl ?_); refine box_event ?hg (N := 2) ?hd (cs := #[.string a0_0, .string a0_1, .string a0_2, .slice A0_3 l0_3.length c0_3, .slice A0_4 l0_4.length c0_4]) (t := 44) ?hr ?_; (case hd => rfl); (case hg => rfl); (case hr => first | (go_simp; done) | (go_simp; rfl)); intro gb134 hg w9 hbox hb; have n0_ := Aside0.mk (below_step hb0_ hb); have n1_ := Aside0.mk (hbox); have n2_ := Aside0.mk ((by rw [hg]; exact (below_size hb0_) : w.heap.size ≤ gb134)); have n3_ := Aside0.mk ((by rw [hg]; exact (below_size hb0_) : w.heap.size ≤ gb134)); clear HB; have HB := n0_; have BK134 := n1_; have GW134 := n2_; have GE134 := n3_; clear n0_ n1_ n2_ n3_; clear hb hbox hg) | ((with_reducible refine gate_callee (f := 48) rfl ?_); refine goesL_ (some 16) rfl rfl Tryz.func48 (by kernel_rfl) rfl #[.slice A1 l1.length c1] rfl (by (try simp only [List.map_toArray, List.map_cons, List.map_nil]); first | done | rfl | (simp only [List.length_drop, List.length_take]; rfl)) ?_; (with_reducible refine (sigv4_names.calls _ _ _ _ _ _ ?side1 ?side2 A3.out).mono ?_); (case side1 => repeat (first | exact (Kd.C_below HR1.out HB.out) | (with_reducible refine Kd.C_alloc ?_ _) | (with_reducible refine Kd.C_drewN ?_ _) | (with_reducible refine Kd.C_drew ?_))); (case side2 => exact HC1.out); rintro e w10 ⟨rfl, hb⟩; refine ⟨_, rfl, ?_⟩; have n0_ := Aside0.mk (blk_below (g := gb134) (o := .cells #[.string a0_0, .string a0_1, .string a0_2, .slice A0_3 l0_3.length c0_3, .slice A0_4 l0_4.length c0_4] 44 (0, 0)) (by (with_reducible repeat (first | refine blk_drewN ?_ _ | refine blk_drew ?_ | refine blk_alloc ?_ _)); exact BK134.out) hb); have n1_ := Aside0.mk (below_step hb1_ hb); clear BK134; clear HB; have BK134 := n0_; have HB := n1_; clear n0_ n1_; (try clear hb); (try clear hb2); (try clear hk); (try clear hi); have hcz11_0 : w10.cell? ⟨gb134, 0, none⟩ = some (.string a0_0) := (blk_cell BK134.out 0).trans rfl; have hcz11_1 : w10.cell? ⟨gb134, 1, none⟩ = some (.string a0_1) := (blk_cell BK134.out 1).trans rfl; have hcz11_2 : w10.cell? ⟨gb134, 2, none⟩ = some (.string a0_2) := (blk_cell BK134.out 2).trans rfl; have hcz11_3 : w10.cell? ⟨gb134, 3, none⟩ = some (.slice A0_3 l0_3.length c0_3) := (blk_cell BK134.out 3).trans rfl; have hcz11_4 : w10.cell? ⟨gb134, 4, none⟩ = some (.slice A0_4 l0_4.length c0_4) := (blk_cell BK134.out 4).trans rfl; have hfz11_0 := blk_frozen BK134.out 0; have hfz11_1 := blk_frozen BK134.out 1; have hfz11_2 := blk_frozen BK134.out 2; have hfz11_3 := blk_frozen BK134.out 3; have hfz11_4 := blk_frozen BK134.out 4) | ((with_reducible refine gate_callee (f := 102) rfl ?_); refine goesL_ (some 21) rfl rfl Tryz.func102 (by kernel_rfl) rfl #[.string a0_1] rfl (by (try simp only [List.map_toArray, List.map_cons, List.map_nil]); first | done | rfl | (simp only [List.length_drop, List.length_take]; rfl)) ?_; (with_reducible refine (uri_Decode.calls a0_1 t136 t137 _ A5.out).mono ?_); rintro e w12 ⟨rfl, hb⟩; refine ⟨_, rfl, ?_⟩; have n0_ := Aside0.mk (blk_below (g := gb134) (o := .cells #[.string a0_0, .string a0_1, .string a0_2, .slice A0_3 l0_3.length c0_3, .slice A0_4 l0_4.length c0_4] 44 (0, 0)) (by (with_reducible repeat (first | refine blk_drewN ?_ _ | refine blk_drew ?_ | refine blk_alloc ?_ _)); exact BK134.out) hb); have n1_ := Aside0.mk (below_step hb1_ hb); clear BK134; clear HB; have BK134 := n0_; have HB := n1_; clear n0_ n1_; (try clear hb); (try clear hb2); (try clear hk); (try clear hi); have hcz13_0 : w12.cell? ⟨gb134, 0, none⟩ = some (.string a0_0) := (blk_cell BK134.out 0).trans rfl; have hcz13_1 : w12.cell? ⟨gb134, 1, none⟩ = some (.string a0_1) := (blk_cell BK134.out 1).trans rfl; have hcz13_2 : w12.cell? ⟨gb134, 2, none⟩ = some (.string a0_2) := (blk_cell BK134.out 2).trans rfl; have hcz13_3 : w12.cell? ⟨gb134, 3, none⟩ = some (.slice A0_3 l0_3.length c0_3) := (blk_cell BK134.out 3).trans rfl; have hcz13_4 : w12.cell? ⟨gb134, 4, none⟩ = some (.slice A0_4 l0_4.length c0_4) := (blk_cell BK134.out 4).trans rfl; have hfz13_0 := blk_frozen BK134.out 0; have hfz13_1 := blk_frozen BK134.out 1; have hfz13_2 := blk_frozen BK134.out 2; have hfz13_3 := blk_frozen BK134.out 3; have hfz13_4 := blk_frozen BK134.out 4) | ((with_reducible refine gate_callee (f := 103) rfl ?_); refine goesL_ (some 27) rfl rfl Tryz.func103 (by kernel_rfl) rfl #[.string a0_2] rfl (by (try simp only [List.map_toArray, List.map_cons, List.map_nil]); first | done | rfl | (simp only [List.length_drop, List.length_take]; rfl)) ?_; (with_reducible refine (uri_Query.calls a0_2 t138 t139 _ A6.out).mono ?_); rintro e w14 ⟨v140, rfl, ho0, hb⟩; refine ⟨_, rfl, ?_⟩; have n0_ := Aside0.mk (Kd.R_lower ho0 (below_size hb1_)); have n1_ := Aside0.mk (blk_below (g := gb134) (o := .cells #[.string a0_0, .string a0_1, .string a0_2, .slice A0_3 l0_3.length c0_3, .slice A0_4 l0_4.length c0_4] 44 (0, 0)) (by (with_reducible repeat (first | refine blk_drewN ?_ _ | refine blk_drew ?_ | refine blk_alloc ?_ _)); exact BK134.out) hb); have n2_ := Aside0.mk (below_step hb1_ hb); clear BK134; clear HB; have HO141 := n0_; have BK134 := n1_; have HB := n2_; clear n0_ n1_ n2_; (try clear hb); (try clear hb2); (try clear hk); (try clear hi); (try clear ho0)))
 have n0_ := Aside0.mk (Kd.R_drew HO141.out)
 have n1_ := Aside0.mk (blk_drew BK134.out)
 have n2_ := Aside0.mk (below_drew1 HB.out)
 clear HO141
 clear BK134
 clear HB
 have HO141 := n0_
 have BK134 := n1_
 have HB := n2_
 clear n0_ n1_ n2_
 refine start_ (n := 8) (S := fun w' => w'.cell? ⟨gb134, 0, none⟩ = some (.string a0_0) ∧ w'.cell? ⟨gb134, 1, none⟩ = some (.string a0_1) ∧ w'.cell? ⟨gb134, 2, none⟩ = some (.string a0_2) ∧ w'.cell? ⟨gb134, 3, none⟩ = some (.slice A0_3 l0_3.length c0_3) ∧ w'.cell? ⟨gb134, 4, none⟩ = some (.slice A0_4 l0_4.length c0_4)) (ds := []) (fl_ 0 8) (by kernel_rfl) rfl rfl ⟨(blk_cell BK134.out 0).trans rfl, (blk_cell BK134.out 1).trans rfl, (blk_cell BK134.out 2).trans rfl, (blk_cell BK134.out 3).trans rfl, (blk_cell BK134.out 4).trans rfl⟩ (fun hHeld => ?_); refine with_tabW sigv4_Canonical.tab5 sigv4_Canonical.bits5 (fun HT_ HW_ => ?_)
 generalize w14.drew = w15 at HO141 BK134 HB hHeld ⊢
 refine puw_ 0 30 1 8 HT_.out (h := ?_)
 refine pure_ (i := 2) (N := some 32) (v := ?_) (a' := ?_) #[true, false, true, false, false, false, false, false] rfl rfl (any_of HT_.out (by kernel_rfl)) (fun _ _ _ h => h) (Or.inl ⟨by rfl, ?_⟩) ?_ ?_
 rotate_left
 ·intro w'
  go_simp
  with_reducible rfl
 rotate_left
 ·simp only [Act.put, spx_]
  rfl
 refine pure_ (i := 4) (N := some 34) (v := ?_) (a' := ?_) #[true, false, true, false, true, false, false, false] rfl rfl (any_of HT_.out (by kernel_rfl)) (fun _ _ _ h => h) (Or.inl ⟨by rfl, ?_⟩) ?_ ?_
 rotate_left
 ·intro w'
  go_simp
  with_reducible rfl
 rotate_left
 ·simp only [Act.put, spx_]
  rfl
 refine take_ (i := 1) (N := some 31) (v := ?_) (a' := ?_) #[true, true, true, false, true, false, false, false] rfl rfl (take_ofW HT_.out HW_.out (by kernel_rfl)) (fun _ _ _ h => h) (Or.inl ⟨by rfl, ?_⟩) hHeld ?_ ?_
 rotate_left
 ·rintro w' ⟨s0, s1, s2, s3, s4⟩
  go_simp
  with_reducible rfl
 rotate_left
 ·simp only [Act.put, spx_]
  rfl
 refine one_ (i := 3) (N := some 33) (fl_ 5 8) rfl rfl (one_of HT_.out (by kernel_rfl)) (by decide) (fun K hK => ?_)
 refine goes_ Tryz.func104 (by kernel_rfl) rfl #[.string t136, .bool true] (by rfl) rfl rfl (by (try simp only [List.map_toArray, List.map_cons, List.map_nil]); first | done | rfl | (simp only [List.length_drop, List.length_take]; rfl)) ?_
 with_reducible refine (uri_Encode.calls t136 true t142 _ A7.out).mono ?_
 rintro e w16 ⟨rfl, hb⟩
 refine ⟨_, rfl, ?_⟩
 have n0_ := Aside0.mk (Kd.R_below (by (with_reducible repeat (first | apply Kd.R_alloc | apply Kd.R_drewN | apply Kd.R_drew)); exact HO141.out) hb)
 have n1_ := Aside0.mk (blk_below (g := gb134) (o := .cells #[.string a0_0, .string a0_1, .string a0_2, .slice A0_3 l0_3.length c0_3, .slice A0_4 l0_4.length c0_4] 44 (0, 0)) (by (with_reducible repeat (first | refine blk_drewN ?_ _ | refine blk_drew ?_ | refine blk_alloc ?_ _)); exact BK134.out) hb)
 have n2_ := Aside0.mk (below_step hb1_ hb)
 clear HO141
 clear BK134
 clear HB
 have HO141 := n0_
 have BK134 := n1_
 have HB := n2_
 clear n0_ n1_ n2_
 (try clear hb)
 (try clear hb2)
 (try clear hk)
 (try clear hi)
 obtain ⟨Ao17, co17, eo17⟩ := Kd.R_slice HO141.out
 (first | subst eo17 | (injection eo17 with f1_ f2_ f3_; have f4_ := f1_.symm; have f5_ := f3_.symm; clear f1_ f2_ f3_; subst f4_; subst f5_))
 refine hK.out _ _ ⟨(blk_cell BK134.out 0).trans rfl, (blk_cell BK134.out 1).trans rfl, (blk_cell BK134.out 2).trans rfl, (blk_cell BK134.out 3).trans rfl, (blk_cell BK134.out 4).trans rfl⟩ (fun hHeld => ?_)
 clear hK K
 refine norm_ (a' := ?_) ?_ ?_
 rotate_left
 ·show Act.put _ (some 33) _ = _
  simp only [Act.put, spx_]
  rfl
 refine one_ (i := 5) (N := some 35) (fl_ 6 8) rfl rfl (one_of HT_.out (by kernel_rfl)) (by decide) (fun K hK => ?_)
 refine goes_ Tryz.func105 (by kernel_rfl) rfl #[.slice Ao17 t138.length co17] (by rfl) rfl rfl (by (try simp only [List.map_toArray, List.map_cons, List.map_nil]); first | done | rfl | (simp only [List.length_drop, List.length_take]; rfl)) ?_
 with_reducible refine (uri_Canon.calls _ _ t138 t143 _ ?side1 ?side2 A8.out).mono ?_
 (case side1 => repeat (first | exact (Kd.R_reads' HO141.out).2.2 | (with_reducible refine Kd.C_alloc ?_ _) | (with_reducible refine Kd.C_drewN ?_ _) | (with_reducible refine Kd.C_drew ?_)))
 (case side2 => exact (Kd.R_reads' HO141.out).2.1)
 rintro e w18 ⟨rfl, hb⟩
 refine ⟨_, rfl, ?_⟩
 have n0_ := Aside0.mk (Kd.R_below (by (with_reducible repeat (first | apply Kd.R_alloc | apply Kd.R_drewN | apply Kd.R_drew)); exact HO141.out) hb)
 have n1_ := Aside0.mk (blk_below (g := gb134) (o := .cells #[.string a0_0, .string a0_1, .string a0_2, .slice A0_3 l0_3.length c0_3, .slice A0_4 l0_4.length c0_4] 44 (0, 0)) (by (with_reducible repeat (first | refine blk_drewN ?_ _ | refine blk_drew ?_ | refine blk_alloc ?_ _)); exact BK134.out) hb)
 have n2_ := Aside0.mk (below_step hb1_ hb)
 clear HO141
 clear BK134
 clear HB
 have HO141 := n0_
 have BK134 := n1_
 have HB := n2_
 clear n0_ n1_ n2_
 (try clear hb)
 (try clear hb2)
 (try clear hk)
 (try clear hi)
 refine hK.out _ _ ⟨(blk_cell BK134.out 0).trans rfl, (blk_cell BK134.out 1).trans rfl, (blk_cell BK134.out 2).trans rfl, (blk_cell BK134.out 3).trans rfl, (blk_cell BK134.out 4).trans rfl⟩ (fun hHeld => ?_)
 clear hK K
 refine norm_ (a' := ?_) ?_ ?_
 rotate_left
 ·show Act.put _ (some 35) _ = _
  simp only [Act.put, spx_]
  rfl
 refine one_ (i := 6) (N := some 36) (fl_ 7 8) rfl rfl (one_of HT_.out (by kernel_rfl)) (by decide) (fun K hK => ?_)
 refine Kd.R_lit_step Kd.string _ 9 ?hg (N := 36) ?hd (xs := ([a0_0, t142, t143] : List ByteArray)) (inner := [.string a0_0, .string t142, .string t143]) (ok := fun _ => True) (okp := fun _ => True) ?hr ?hp (fun _ hk => hk) trivial (Below.refl _ _) (Nat.le_refl _) (by simp) ?_; (case hd => rfl); (case hg => rfl); (case hr => first | (go_simp; done) | (go_simp; rfl)); (case hp => exact (Reps.one (show Kd.M Kd.string _ _ _ a0_0 [.string a0_0] from rfl) (Reps.one (show Kd.M Kd.string _ _ _ t142 [.string t142] from rfl) (Reps.one (show Kd.M Kd.string _ _ _ t143 [.string t143] from rfl) (Reps.none _ _)))))
 intro v145 w19 ho20 hb hg_ hnew_
 clear hg_ hnew_
 (first | rw [← Ny144.out] at ho20 | (simp only [Int.reduceToNat] at ho20; rw [← Ny144.out] at ho20))
 have n0_ := Aside0.mk (Kd.R_below (by (with_reducible repeat (first | apply Kd.R_alloc | apply Kd.R_drewN | apply Kd.R_drew)); exact HO141.out) hb)
 have n1_ := Aside0.mk (Kd.R_lower ho20 (below_size hb1_))
 have n2_ := Aside0.mk (blk_below (g := gb134) (o := .cells #[.string a0_0, .string a0_1, .string a0_2, .slice A0_3 l0_3.length c0_3, .slice A0_4 l0_4.length c0_4] 44 (0, 0)) (by (with_reducible repeat (first | refine blk_drewN ?_ _ | refine blk_drew ?_ | refine blk_alloc ?_ _)); exact BK134.out) hb)
 have n3_ := Aside0.mk (below_step hb1_ hb)
 clear HO141
 clear BK134
 clear HB
 have HO141 := n0_
 have HO146 := n1_
 have BK134 := n2_
 have HB := n3_
 clear n0_ n1_ n2_ n3_
 clear hb ho20
 refine hK.out _ _ ⟨(blk_cell BK134.out 0).trans rfl, (blk_cell BK134.out 1).trans rfl, (blk_cell BK134.out 2).trans rfl, (blk_cell BK134.out 3).trans rfl, (blk_cell BK134.out 4).trans rfl⟩ (fun hHeld => ?_)
 clear hK K
 refine norm_ (a' := ?_) ?_ ?_
 rotate_left
 ·show Act.put _ (some 36) _ = _
  simp only [Act.put, spx_]
  rfl
 refine puw_ 7 10 8 8 HT_.out (h := ?_)
 refine done_ (done_of HT_.out (by kernel_rfl)) ?_
 try go_wp2
 go_loopg [10, 39] k (fun kq v10 v39 w' => ∃ (x10_1 : List ByteArray) (x39_1 : Int), v39 = .int .i64 x39_1 ∧ Aside0 (sigv4_Canonical.l0 kq l1 t137 t139 x10_1 l1 (l1.length : Int) x39_1 a0_0 a0_1 a0_2 l0_3 l0_4 = some (r1, r2)) ∧ Aside0 (kq ≤ k) ∧ Aside0 (Kd.R Kd.string 9 w' w.heap.size (fun _ => True) v10 x10_1) ∧ Aside0 (w'.heap[gb134]? = some (.cells #[.string a0_0, .string a0_1, .string a0_2, (.slice A0_3 l0_3.length c0_3), (.slice A0_4 l0_4.length c0_4)] 44 (0, 0))) ∧ Aside0 (Below w.heap.size w w'))
 case atStart => exact ⟨(y144), (0), (by first | rfl | (simp; done) | (simp [*]; done)), H', ⟨Nat.le_refl _⟩, ⟨by (with_reducible repeat (first | apply Kd.R_alloc | apply Kd.R_drewN | apply Kd.R_drew)); exact HO146.out⟩, ⟨by (with_reducible repeat (first | refine blk_drewN ?_ _ | refine blk_drew ?_ | refine blk_alloc ?_ _)); exact BK134.out⟩, ⟨hb1_⟩⟩
 case round =>
  clear H'
  try clear c1
  try clear p2
  try clear c4
  try clear c6
  try clear c10
  try clear hcz11_0
  try clear hcz11_1
  try clear hcz11_2
  try clear hcz11_3
  try clear hcz11_4
  try clear hcz13_0
  try clear hcz13_1
  try clear hcz13_2
  try clear hcz13_3
  try clear hcz13_4
  try clear hfz11_0
  try clear hfz11_1
  try clear hfz11_2
  try clear hfz11_3
  try clear hfz11_4
  try clear hfz13_0
  try clear hfz13_1
  try clear hfz13_2
  try clear hfz13_3
  try clear hfz13_4
  obtain ⟨x10_1, x39_1, rfl, HA, HK1, HO_10, BK134, HB⟩ := hrel
  cases gk with
  | zero => exact absurd HA.out (by simp [sigv4_Canonical.l0])
  | succ k1 =>
   have H := HA.out
   clear HA
   simp only [sigv4_Canonical.l0] at H
   by_cases c21 : x39_1 < (l1.length : Int)
   ·rw [if_pos c21] at H
    have c21b0 : decide (x39_1 < (l1.length : Int)) = true := decide_eq_true c21
    clear c21
    by_cases c22 : 0 ≤ x39_1
    rotate_left
    ·rw [if_neg c22] at H
     exact absurd H (by simp)
    rw [if_pos c22] at H
    have c22b0 : decide (0 ≤ x39_1) = true := decide_eq_true c22
    clear c22
    by_cases c23 : x39_1 < (l1.length : Int)
    rotate_left
    ·rw [if_neg c23] at H
     exact absurd H (by simp)
    rw [if_pos c23] at H
    have c23b0 : decide (x39_1 < (l1.length : Int)) = true := decide_eq_true c23
    clear c23
    replace H := Option.bind_eq_some_iff.mp H
    obtain ⟨⟨t148, t149⟩, A240, H⟩ := H
    replace H : (if t149 = true then (if (rdOf ByteArray.empty l1 x39_1).size + 1 ≤ 9223372036854775807 then (if ((rdOf ByteArray.empty l1 x39_1) ++ (⟨#[58]⟩ : ByteArray)).size + t148.size ≤ 9223372036854775807 then (if x10_1.length < 8796093022208 then (sigv4_Canonical.l0 k1 l1 t137 t139 (x10_1 ++ [((rdOf ByteArray.empty l1 x39_1) ++ (⟨#[58]⟩ : ByteArray)) ++ t148]) l1 (l1.length : Int) (wrap64 (x39_1 + 1)) a0_0 a0_1 a0_2 l0_3 l0_4) else (none)) else (none)) else (none)) else (some ((⟨#[]⟩ : ByteArray), 11))) = some (r1, r2) := H
    have A24 := Aside0.mk A240
    clear A240
    by_cases c25 : t149 = true
    rotate_left
    ·replace c25 := Bool.eq_false_iff.mpr c25
     subst c25
     have H1 : (some ((⟨#[]⟩ : ByteArray), 11)) = some (r1, r2) := by rw [if_neg (show ¬ (false = true) by decide)] at H; exact H
     clear H
     have H := H1
     clear H1
     simp only [Option.some.injEq, Prod.mk.injEq] at H
     obtain ⟨rfl, rfl⟩ := H
     have p147 : 0 ≤ (x39_1 : Int) := ode_
     have q147 : x39_1 < (l1.length : Int) := ode_
     obtain ⟨ad147, e147, hx147_0⟩ := Kd.at_string HR1.out x39_1 p147 q147
     cases e147
     replace hx147_0 := (HB.out.cell (World.block_lt_of_cell? w _ hx147_0)).trans hx147_0
     replace p147 := eq_true p147
     replace q147 := eq_true q147
     have hcz32_0 : wr.cell? ⟨gb134, 0, none⟩ = some (.string a0_0) := (blk_cell BK134.out 0).trans rfl
     have hcz32_1 : wr.cell? ⟨gb134, 1, none⟩ = some (.string a0_1) := (blk_cell BK134.out 1).trans rfl
     have hcz32_2 : wr.cell? ⟨gb134, 2, none⟩ = some (.string a0_2) := (blk_cell BK134.out 2).trans rfl
     have hcz32_3 : wr.cell? ⟨gb134, 3, none⟩ = some (.slice A0_3 l0_3.length c0_3) := (blk_cell BK134.out 3).trans rfl
     have hcz32_4 : wr.cell? ⟨gb134, 4, none⟩ = some (.slice A0_4 l0_4.length c0_4) := (blk_cell BK134.out 4).trans rfl
     have hfz32_0 := blk_frozen BK134.out 0
     have hfz32_1 := blk_frozen BK134.out 1
     have hfz32_2 := blk_frozen BK134.out 2
     have hfz32_3 := blk_frozen BK134.out 3
     have hfz32_4 := blk_frozen BK134.out 4
     go_wp2_with (first | ((with_reducible refine gate_callee (f := 30) rfl ?_); refine goesL_ (some 46) rfl rfl Tryz.func30 (by kernel_rfl) rfl #[.agg #[.string a0_0, .string a0_1, .string a0_2, .slice A0_3 l0_3.length c0_3, .slice A0_4 l0_4.length c0_4], .string (rdOf ByteArray.empty l1 x39_1)] rfl (by (try simp only [List.map_toArray, List.map_cons, List.map_nil]); first | done | rfl | (simp only [List.length_drop, List.length_take]; rfl)) ?_; (with_reducible refine (request_Get.calls a0_0 a0_1 a0_2 _ _ l0_3 _ _ l0_4 (rdOf ByteArray.empty l1 x39_1) t148 false _ ?side1 ?side2 ?side3 ?side4 A24.out).mono ?_); (case side1 => repeat (first | exact (Kd.C_below HR0_3.out HB.out) | (with_reducible refine Kd.C_alloc ?_ _) | (with_reducible refine Kd.C_drewN ?_ _) | (with_reducible refine Kd.C_drew ?_))); (case side2 => exact HC0_3.out); (case side3 => repeat (first | exact (Kd.C_below HR0_4.out HB.out) | (with_reducible refine Kd.C_alloc ?_ _) | (with_reducible refine Kd.C_drewN ?_ _) | (with_reducible refine Kd.C_drew ?_))); (case side4 => exact HC0_4.out); rintro e w33 ⟨rfl, hb⟩; refine ⟨_, rfl, ?_⟩; have n0_ := Aside0.mk (Kd.R_below (by (with_reducible repeat (first | apply Kd.R_alloc | apply Kd.R_drewN | apply Kd.R_drew)); exact HO_10.out) hb); have n1_ := Aside0.mk (blk_below (g := gb134) (o := .cells #[.string a0_0, .string a0_1, .string a0_2, .slice A0_3 l0_3.length c0_3, .slice A0_4 l0_4.length c0_4] 44 (0, 0)) (by (with_reducible repeat (first | refine blk_drewN ?_ _ | refine blk_drew ?_ | refine blk_alloc ?_ _)); exact BK134.out) hb); have n2_ := Aside0.mk (below_step hb1_ hb); clear HO_10; clear BK134; clear HB; have HO_10 := n0_; have BK134 := n1_; have HB := n2_; clear n0_ n1_ n2_; (try clear hb); (try clear hb2); (try clear hk); (try clear hi)))
     go_ret2
     exact ⟨by first | rfl | (simp [errW_none, errW_some] <;> rfl) | (simp [*, errW_none, errW_some] <;> rfl), hb1_⟩
    subst c25
    have H1 : (if (rdOf ByteArray.empty l1 x39_1).size + 1 ≤ 9223372036854775807 then (if ((rdOf ByteArray.empty l1 x39_1) ++ (⟨#[58]⟩ : ByteArray)).size + t148.size ≤ 9223372036854775807 then (if x10_1.length < 8796093022208 then (sigv4_Canonical.l0 k1 l1 t137 t139 (x10_1 ++ [((rdOf ByteArray.empty l1 x39_1) ++ (⟨#[58]⟩ : ByteArray)) ++ t148]) l1 (l1.length : Int) (wrap64 (x39_1 + 1)) a0_0 a0_1 a0_2 l0_3 l0_4) else (none)) else (none)) else (none)) = some (r1, r2) := by rw [if_pos rfl] at H; exact H
    clear H
    have H := H1
    clear H1
    by_cases c26 : (rdOf ByteArray.empty l1 x39_1).size + 1 ≤ 9223372036854775807
    rotate_left
    ·rw [if_neg c26] at H
     exact absurd H (by simp)
    rw [if_pos c26] at H
    have c26b0 := eq_true c26
    have c26b1 : decide ((rdOf ByteArray.empty l1 x39_1).size + 1 ≤ 9223372036854775807) = true := decide_eq_true c26
    try have c26b2 : (9223372036854775807 < (rdOf ByteArray.empty l1 x39_1).size + 1) = False := eq_false (Nat.not_lt.2 c26)
    by_cases c27 : ((rdOf ByteArray.empty l1 x39_1) ++ (⟨#[58]⟩ : ByteArray)).size + t148.size ≤ 9223372036854775807
    rotate_left
    ·rw [if_neg c27] at H
     exact absurd H (by simp)
    rw [if_pos c27] at H
    have c27b0 := eq_true c27
    have c27b1 : decide (((rdOf ByteArray.empty l1 x39_1) ++ (⟨#[58]⟩ : ByteArray)).size + t148.size ≤ 9223372036854775807) = true := decide_eq_true c27
    try have c27b2 : (9223372036854775807 < ((rdOf ByteArray.empty l1 x39_1) ++ (⟨#[58]⟩ : ByteArray)).size + t148.size) = False := eq_false (Nat.not_lt.2 c27)
    have c27b3 : (9223372036854775807 < (rdOf ByteArray.empty l1 x39_1).size + 1 + t148.size) = False := eq_false (Nat.not_lt.2 (by have h_ := c27; simp only [ByteArray.size_append] at h_; exact h_))
    by_cases c28 : x10_1.length < 8796093022208
    rotate_left
    ·rw [if_neg c28] at H
     exact absurd H (by simp)
    rw [if_pos c28] at H
    have LMc28 := Aside0.mk c28
    clear c28
    obtain ⟨y150, hy150⟩ : ∃ y_ : List ByteArray, y_ = (x10_1 ++ [((rdOf ByteArray.empty l1 x39_1) ++ (⟨#[58]⟩ : ByteArray)) ++ t148]) := ⟨_, rfl⟩
    replace H : (sigv4_Canonical.l0 k1 l1 t137 t139 y150 l1 (l1.length : Int) (wrap64 (x39_1 + 1)) a0_0 a0_1 a0_2 l0_3 l0_4) = some (r1, r2) := by first | (rw [hy150]; with_reducible exact H) | (have H2_ := (Option.bind_some _ _).symm.trans H; rw [hy150]; with_reducible exact H2_) | (have H2_ := (Option.bind_some _ _).symm.trans H; with_reducible exact H2_) | with_reducible exact H | (rw [hy150]; exact H) | exact H
    have Ny150 := Aside0.mk hy150
    clear hy150
    have H' := Aside0.mk H
    clear H
    have p147 : 0 ≤ (x39_1 : Int) := ode_
    have q147 : x39_1 < (l1.length : Int) := ode_
    obtain ⟨ad147, e147, hx147_0⟩ := Kd.at_string HR1.out x39_1 p147 q147
    cases e147
    replace hx147_0 := (HB.out.cell (World.block_lt_of_cell? w _ hx147_0)).trans hx147_0
    replace p147 := eq_true p147
    replace q147 := eq_true q147
    have hcz29_0 : wr.cell? ⟨gb134, 0, none⟩ = some (.string a0_0) := (blk_cell BK134.out 0).trans rfl
    have hcz29_1 : wr.cell? ⟨gb134, 1, none⟩ = some (.string a0_1) := (blk_cell BK134.out 1).trans rfl
    have hcz29_2 : wr.cell? ⟨gb134, 2, none⟩ = some (.string a0_2) := (blk_cell BK134.out 2).trans rfl
    have hcz29_3 : wr.cell? ⟨gb134, 3, none⟩ = some (.slice A0_3 l0_3.length c0_3) := (blk_cell BK134.out 3).trans rfl
    have hcz29_4 : wr.cell? ⟨gb134, 4, none⟩ = some (.slice A0_4 l0_4.length c0_4) := (blk_cell BK134.out 4).trans rfl
    have hfz29_0 := blk_frozen BK134.out 0
    have hfz29_1 := blk_frozen BK134.out 1
    have hfz29_2 := blk_frozen BK134.out 2
    have hfz29_3 := blk_frozen BK134.out 3
    have hfz29_4 := blk_frozen BK134.out 4
    go_wp2_with (first | ((with_reducible refine gate_callee (f := 30) rfl ?_); refine goesL_ (some 46) rfl rfl Tryz.func30 (by kernel_rfl) rfl #[.agg #[.string a0_0, .string a0_1, .string a0_2, .slice A0_3 l0_3.length c0_3, .slice A0_4 l0_4.length c0_4], .string (rdOf ByteArray.empty l1 x39_1)] rfl (by (try simp only [List.map_toArray, List.map_cons, List.map_nil]); first | done | rfl | (simp only [List.length_drop, List.length_take]; rfl)) ?_; (with_reducible refine (request_Get.calls a0_0 a0_1 a0_2 _ _ l0_3 _ _ l0_4 (rdOf ByteArray.empty l1 x39_1) t148 true _ ?side1 ?side2 ?side3 ?side4 A24.out).mono ?_); (case side1 => repeat (first | exact (Kd.C_below HR0_3.out HB.out) | (with_reducible refine Kd.C_alloc ?_ _) | (with_reducible refine Kd.C_drewN ?_ _) | (with_reducible refine Kd.C_drew ?_))); (case side2 => exact HC0_3.out); (case side3 => repeat (first | exact (Kd.C_below HR0_4.out HB.out) | (with_reducible refine Kd.C_alloc ?_ _) | (with_reducible refine Kd.C_drewN ?_ _) | (with_reducible refine Kd.C_drew ?_))); (case side4 => exact HC0_4.out); rintro e w30 ⟨rfl, hb⟩; refine ⟨_, rfl, ?_⟩; have n0_ := Aside0.mk (Kd.R_below (by (with_reducible repeat (first | apply Kd.R_alloc | apply Kd.R_drewN | apply Kd.R_drew)); exact HO_10.out) hb); have n1_ := Aside0.mk (blk_below (g := gb134) (o := .cells #[.string a0_0, .string a0_1, .string a0_2, .slice A0_3 l0_3.length c0_3, .slice A0_4 l0_4.length c0_4] 44 (0, 0)) (by (with_reducible repeat (first | refine blk_drewN ?_ _ | refine blk_drew ?_ | refine blk_alloc ?_ _)); exact BK134.out) hb); have n2_ := Aside0.mk (below_step hb1_ hb); clear HO_10; clear BK134; clear HB; have HO_10 := n0_; have BK134 := n1_; have HB := n2_; clear n0_ n1_ n2_; (try clear hb); (try clear hb2); (try clear hk); (try clear hi)) | ((with_reducible refine gate_builtin (b := .append) (xs := #[.tmp 51, .tmp 56]) rfl ?_); at_builtin; refine Kd.R_append Kd.string (w0 := w) w.heap.size rfl (.tmp 51) (.tmp 56) 22 9 (.string ⟨#[]⟩) 16 rfl Tryz.underlying22 info9 rfl (by decide) (by omega) u10 x10_1 (((rdOf ByteArray.empty l1 x39_1) ++ (⟨#[58]⟩ : ByteArray)) ++ t148) [.string (((rdOf ByteArray.empty l1 x39_1) ++ (⟨#[58]⟩ : ByteArray)) ++ t148)] (fun _ => True) (fun _ => False) rfl rfl ?aP (fun _ hk => hk.elim) ?aF ?aO ?aB ?aS ?aL ?_; (case aP => exact rfl); (case aB => exact hb1_); (case aF => exact (fun _ _ => trivial)); (case aO => exact (by (with_reducible repeat (first | apply Kd.R_alloc | apply Kd.R_drewN | apply Kd.R_drew)); exact HO_10.out)); (case aS => exact (below_size hb1_)); (case aL => have := LMc28.out; omega); intro v151 w31 ho hb hg hat; rw [← Ny150.out] at ho; have n0_ := Aside0.mk (blk_grown (g := gb134) (o := .cells #[.string a0_0, .string a0_1, .string a0_2, .slice A0_3 l0_3.length c0_3, .slice A0_4 l0_4.length c0_4] 44 (0, 0)) (by (with_reducible repeat (first | refine blk_drewN ?_ _ | refine blk_drew ?_ | refine blk_alloc ?_ _)); exact BK134.out) hg (Kd.R_ne HO_10.out BK134.out (by decide))); have n1_ := Aside0.mk (hb); have n2_ := Aside0.mk (ho); clear BK134; clear HB; clear HO_10; have BK134 := n0_; have HB := n1_; have HO152 := n2_; clear n0_ n1_ n2_; clear ho hb hg hat))
    go_roundg k1
    case measure => have := HK1.out; omega
    case rel => exact ⟨(y150), (wrap64 (x39_1 + 1)), (by first | rfl | (simp; done) | (simp [*]; done)), H', ⟨by have := HK1.out; omega⟩, ⟨by (with_reducible repeat (first | apply Kd.R_alloc | apply Kd.R_drewN | apply Kd.R_drew)); exact HO152.out⟩, ⟨by (with_reducible repeat (first | refine blk_drewN ?_ _ | refine blk_drew ?_ | refine blk_alloc ?_ _)); exact BK134.out⟩, ⟨hb1_⟩⟩
   rw [if_neg c21] at H
   have c21b0 : decide (x39_1 < (l1.length : Int)) = false := decide_eq_false c21
   clear c21
   obtain ⟨y153, hy153⟩ : ∃ y_ : List Int, y_ = (([t137, t139] : List Int)) := ⟨_, rfl⟩
   replace H : ((api_Errno.f k1 y153).bind fun t156 => (if t156 = 0 then ((strings_Join.f l1 (⟨#[59]⟩ : ByteArray)).bind fun t157 => ((digest_Sha256.f l0_4).bind fun t158 => ((digest_Hex.f t158).bind fun t161 => ((some (([(⟨#[]⟩ : ByteArray), t157, t161] : List ByteArray) : List ByteArray)).bind fun y162 => (if x10_1.length + y162.length < 8796093022208 then ((strings_Join.f (x10_1 ++ y162) (⟨#[10]⟩ : ByteArray)).bind fun t168 => (some (t168, 0))) else (none)))))) else (some ((⟨#[]⟩ : ByteArray), 13)))) = some (r1, r2) := by first | (rw [hy153]; with_reducible exact H) | (have H2_ := (Option.bind_some _ _).symm.trans H; rw [hy153]; with_reducible exact H2_) | (have H2_ := (Option.bind_some _ _).symm.trans H; with_reducible exact H2_) | with_reducible exact H | (rw [hy153]; exact H) | exact H
   have Ny153 := Aside0.mk hy153
   clear hy153
   replace H := Option.bind_eq_some_iff.mp H
   obtain ⟨t156, A340, H⟩ := H
   replace H : (if t156 = 0 then ((strings_Join.f l1 (⟨#[59]⟩ : ByteArray)).bind fun t157 => ((digest_Sha256.f l0_4).bind fun t158 => ((digest_Hex.f t158).bind fun t161 => ((some (([(⟨#[]⟩ : ByteArray), t157, t161] : List ByteArray) : List ByteArray)).bind fun y162 => (if x10_1.length + y162.length < 8796093022208 then ((strings_Join.f (x10_1 ++ y162) (⟨#[10]⟩ : ByteArray)).bind fun t168 => (some (t168, 0))) else (none)))))) else (some ((⟨#[]⟩ : ByteArray), 13))) = some (r1, r2) := H
   have A34 := Aside0.mk A340
   clear A340
   by_cases c35 : t156 = 0
   rotate_left
   ·rw [if_neg c35] at H
    have c35b0 : (t156 == 0) = false := beq_eq_false_iff_ne.mpr c35
    have c35b1 : (t156 != 0) = true := bne_iff_ne.mpr c35
    simp only [Option.some.injEq, Prod.mk.injEq] at H
    obtain ⟨rfl, rfl⟩ := H
    go_wp2_with (first | ((with_reducible refine gate_dst (N := 61) rfl ?_); refine Kd.R_lit (Kd.int .i64) _ 27 ?hg (N := 61) ?hd (xs := ([t137, t139] : List Int)) (inner := [.int .i64 t137, .int .i64 t139]) (ok := fun _ => True) (okp := fun _ => True) ?hr ?hp (fun _ hk => hk) trivial (Below.refl _ _) (Nat.le_refl _) (by simp) ?_; (case hd => rfl); (case hg => rfl); (case hr => first | (go_simp; done) | (go_simp; rfl)); (case hp => exact (Reps.one (show Kd.M (Kd.int .i64) _ _ _ t137 [.int .i64 t137] from rfl) (Reps.one (show Kd.M (Kd.int .i64) _ _ _ t139 [.int .i64 t139] from rfl) (Reps.none _ _)))); intro v154 w55 ho56 hb hg_ hnew_; clear hg_ hnew_; (first | rw [← Ny153.out] at ho56 | (simp only [Int.reduceToNat] at ho56; rw [← Ny153.out] at ho56)); have n0_ := Aside0.mk (Kd.R_below (by (with_reducible repeat (first | apply Kd.R_alloc | apply Kd.R_drewN | apply Kd.R_drew)); exact HO_10.out) hb); have n1_ := Aside0.mk (Kd.R_lower ho56 (below_size hb1_)); have n2_ := Aside0.mk (blk_below (g := gb134) (o := .cells #[.string a0_0, .string a0_1, .string a0_2, .slice A0_3 l0_3.length c0_3, .slice A0_4 l0_4.length c0_4] 44 (0, 0)) (by (with_reducible repeat (first | refine blk_drewN ?_ _ | refine blk_drew ?_ | refine blk_alloc ?_ _)); exact BK134.out) hb); have n3_ := Aside0.mk (below_step hb1_ hb); clear HO_10; clear BK134; clear HB; have HO_10 := n0_; have HO155 := n1_; have BK134 := n2_; have HB := n3_; clear n0_ n1_ n2_ n3_; clear hb ho56; obtain ⟨Ao57, co57, eo57⟩ := Kd.R_slice HO155.out; subst eo57) | ((with_reducible refine gate_callee (f := 36) rfl ?_); refine goesL_ (some 62) rfl rfl Tryz.func36 (by kernel_rfl) rfl #[.slice Ao57 y153.length co57] rfl (by (try simp only [List.map_toArray, List.map_cons, List.map_nil]); first | done | rfl | (simp only [List.length_drop, List.length_take]; rfl)) ?_; (with_reducible refine (api_Errno.calls _ _ _ _ _ _ ?side1 ?side2 A34.out).mono ?_); (case side1 => repeat (first | exact (Kd.R_reads' HO155.out).2.2 | (with_reducible refine Kd.C_alloc ?_ _) | (with_reducible refine Kd.C_drewN ?_ _) | (with_reducible refine Kd.C_drew ?_))); (case side2 => exact (Kd.R_reads' HO155.out).2.1); rintro e w' ⟨rfl, ⟨nd, rfl⟩⟩; refine ⟨_, rfl, ?_⟩))
    go_ret2
    exact ⟨by first | rfl | (simp [errW_none, errW_some] <;> rfl) | (simp [*, errW_none, errW_some] <;> rfl), hb1_⟩
   rw [if_pos c35] at H
   have c35b0 : (t156 == 0) = true := beq_iff_eq.mpr c35
   have c35b1 : (t156 != 0) = false := bne_eq_false_iff_eq.mpr c35
   clear c35
   replace H := Option.bind_eq_some_iff.mp H
   obtain ⟨t157, A360, H⟩ := H
   replace H : ((digest_Sha256.f l0_4).bind fun t158 => ((digest_Hex.f t158).bind fun t161 => ((some (([(⟨#[]⟩ : ByteArray), t157, t161] : List ByteArray) : List ByteArray)).bind fun y162 => (if x10_1.length + y162.length < 8796093022208 then ((strings_Join.f (x10_1 ++ y162) (⟨#[10]⟩ : ByteArray)).bind fun t168 => (some (t168, 0))) else (none))))) = some (r1, r2) := H
   have A36 := Aside0.mk A360
   clear A360
   replace H := Option.bind_eq_some_iff.mp H
   obtain ⟨t158, A370, H⟩ := H
   replace H : ((digest_Hex.f t158).bind fun t161 => ((some (([(⟨#[]⟩ : ByteArray), t157, t161] : List ByteArray) : List ByteArray)).bind fun y162 => (if x10_1.length + y162.length < 8796093022208 then ((strings_Join.f (x10_1 ++ y162) (⟨#[10]⟩ : ByteArray)).bind fun t168 => (some (t168, 0))) else (none)))) = some (r1, r2) := H
   have A37 := Aside0.mk A370
   clear A370
   replace H := Option.bind_eq_some_iff.mp H
   obtain ⟨t161, A380, H⟩ := H
   replace H : ((some (([(⟨#[]⟩ : ByteArray), t157, t161] : List ByteArray) : List ByteArray)).bind fun y162 => (if x10_1.length + y162.length < 8796093022208 then ((strings_Join.f (x10_1 ++ y162) (⟨#[10]⟩ : ByteArray)).bind fun t168 => (some (t168, 0))) else (none))) = some (r1, r2) := H
   have A38 := Aside0.mk A380
   clear A380
   obtain ⟨y162, hy162⟩ : ∃ y_ : List ByteArray, y_ = (([(⟨#[]⟩ : ByteArray), t157, t161] : List ByteArray)) := ⟨_, rfl⟩
   replace H : (if x10_1.length + y162.length < 8796093022208 then ((strings_Join.f (x10_1 ++ y162) (⟨#[10]⟩ : ByteArray)).bind fun t168 => (some (t168, 0))) else (none)) = some (r1, r2) := by first | (rw [hy162]; with_reducible exact H) | (have H2_ := (Option.bind_some _ _).symm.trans H; rw [hy162]; with_reducible exact H2_) | (have H2_ := (Option.bind_some _ _).symm.trans H; with_reducible exact H2_) | with_reducible exact H | (rw [hy162]; exact H) | exact H
   have Ny162 := Aside0.mk hy162
   clear hy162
   by_cases c39 : x10_1.length + y162.length < 8796093022208
   rotate_left
   ·rw [if_neg c39] at H
    exact absurd H (by simp)
   rw [if_pos c39] at H
   have LMc39 := Aside0.mk c39
   clear c39
   obtain ⟨y165, hy165⟩ : ∃ y_ : List ByteArray, y_ = (x10_1 ++ y162) := ⟨_, rfl⟩
   replace H : ((strings_Join.f y165 (⟨#[10]⟩ : ByteArray)).bind fun t168 => (some (t168, 0))) = some (r1, r2) := by first | (rw [hy165]; with_reducible exact H) | (have H2_ := (Option.bind_some _ _).symm.trans H; rw [hy165]; with_reducible exact H2_) | (have H2_ := (Option.bind_some _ _).symm.trans H; with_reducible exact H2_) | with_reducible exact H | (rw [hy165]; exact H) | exact H
   have Ny165 := Aside0.mk hy165
   clear hy165
   replace H := Option.bind_eq_some_iff.mp H
   obtain ⟨t168, A400, H⟩ := H
   replace H : (some (t168, 0)) = some (r1, r2) := H
   have A40 := Aside0.mk A400
   clear A400
   simp only [Option.some.injEq, Prod.mk.injEq] at H
   obtain ⟨rfl, rfl⟩ := H
   try go_wp2_with (first | ((with_reducible refine gate_dst (N := 61) rfl ?_); refine Kd.R_lit (Kd.int .i64) _ 27 ?hg (N := 61) ?hd (xs := ([t137, t139] : List Int)) (inner := [.int .i64 t137, .int .i64 t139]) (ok := fun _ => True) (okp := fun _ => True) ?hr ?hp (fun _ hk => hk) trivial (Below.refl _ _) (Nat.le_refl _) (by simp) ?_; (case hd => rfl); (case hg => rfl); (case hr => first | (go_simp; done) | (go_simp; rfl)); (case hp => exact (Reps.one (show Kd.M (Kd.int .i64) _ _ _ t137 [.int .i64 t137] from rfl) (Reps.one (show Kd.M (Kd.int .i64) _ _ _ t139 [.int .i64 t139] from rfl) (Reps.none _ _)))); intro v154 w41 ho42 hb hg_ hnew_; clear hg_ hnew_; (first | rw [← Ny153.out] at ho42 | (simp only [Int.reduceToNat] at ho42; rw [← Ny153.out] at ho42)); have n0_ := Aside0.mk (Kd.R_below (by (with_reducible repeat (first | apply Kd.R_alloc | apply Kd.R_drewN | apply Kd.R_drew)); exact HO_10.out) hb); have n1_ := Aside0.mk (Kd.R_lower ho42 (below_size hb1_)); have n2_ := Aside0.mk (blk_below (g := gb134) (o := .cells #[.string a0_0, .string a0_1, .string a0_2, .slice A0_3 l0_3.length c0_3, .slice A0_4 l0_4.length c0_4] 44 (0, 0)) (by (with_reducible repeat (first | refine blk_drewN ?_ _ | refine blk_drew ?_ | refine blk_alloc ?_ _)); exact BK134.out) hb); have n3_ := Aside0.mk (below_step hb1_ hb); clear HO_10; clear BK134; clear HB; have HO_10 := n0_; have HO155 := n1_; have BK134 := n2_; have HB := n3_; clear n0_ n1_ n2_ n3_; clear hb ho42; obtain ⟨Ao43, co43, eo43⟩ := Kd.R_slice HO155.out; subst eo43) | ((with_reducible refine gate_callee (f := 36) rfl ?_); refine goesL_ (some 62) rfl rfl Tryz.func36 (by kernel_rfl) rfl #[.slice Ao43 y153.length co43] rfl (by (try simp only [List.map_toArray, List.map_cons, List.map_nil]); first | done | rfl | (simp only [List.length_drop, List.length_take]; rfl)) ?_; (with_reducible refine (api_Errno.calls _ _ _ _ _ _ ?side1 ?side2 A34.out).mono ?_); (case side1 => repeat (first | exact (Kd.R_reads' HO155.out).2.2 | (with_reducible refine Kd.C_alloc ?_ _) | (with_reducible refine Kd.C_drewN ?_ _) | (with_reducible refine Kd.C_drew ?_))); (case side2 => exact (Kd.R_reads' HO155.out).2.1); rintro e w' ⟨rfl, ⟨nd, rfl⟩⟩; refine ⟨_, rfl, ?_⟩))
   (try (rw [drewN_self w41]; generalize hq_ : World.drewN w41 _ = w41; have n0_ : Aside0 (Kd.R (Kd.int .i64) 27 w41 w.heap.size (fun _ => True) (.slice Ao43 y153.length co43) y153) := ⟨by rw [← hq_]; exact (by (with_reducible repeat (first | apply Kd.R_alloc | apply Kd.R_drewN | apply Kd.R_drew)); exact HO155.out)⟩; have n1_ : Aside0 (Kd.R Kd.string 9 w41 w.heap.size (fun _ => True) u10 x10_1) := ⟨by rw [← hq_]; exact (by (with_reducible repeat (first | apply Kd.R_alloc | apply Kd.R_drewN | apply Kd.R_drew)); exact HO_10.out)⟩; have n2_ : Aside0 (w41.heap[gb134]? = some (.cells #[.string a0_0, .string a0_1, .string a0_2, .slice A0_3 l0_3.length c0_3, .slice A0_4 l0_4.length c0_4] 44 (0, 0))) := ⟨by rw [← hq_]; exact (by (with_reducible repeat (first | refine blk_drewN ?_ _ | refine blk_drew ?_ | refine blk_alloc ?_ _)); exact BK134.out)⟩; have n3_ : Aside0 (Below w.heap.size w w41) := ⟨by rw [← hq_]; exact hb1_⟩; clear HO155 HO_10 BK134 HB hq_; have HO155 := n0_; have HO_10 := n1_; have BK134 := n2_; have HB := n3_; clear n0_ n1_ n2_ n3_))
   have n0_ := Aside0.mk (Kd.R_drew HO_10.out)
   have n1_ := Aside0.mk (Kd.R_drew HO155.out)
   have n2_ := Aside0.mk (blk_drew BK134.out)
   have n3_ := Aside0.mk (below_drew1 HB.out)
   clear HO_10
   clear HO155
   clear BK134
   clear HB
   have HO_10 := n0_
   have HO155 := n1_
   have BK134 := n2_
   have HB := n3_
   clear n0_ n1_ n2_ n3_
   refine start_ (n := 10) (S := fun w' => w'.cell? ⟨gb134, 0, none⟩ = some (.string a0_0) ∧ w'.cell? ⟨gb134, 1, none⟩ = some (.string a0_1) ∧ w'.cell? ⟨gb134, 2, none⟩ = some (.string a0_2) ∧ w'.cell? ⟨gb134, 3, none⟩ = some (.slice A0_3 l0_3.length c0_3) ∧ w'.cell? ⟨gb134, 4, none⟩ = some (.slice A0_4 l0_4.length c0_4)) (ds := []) (fl_ 0 10) (by kernel_rfl) rfl rfl ⟨(blk_cell BK134.out 0).trans rfl, (blk_cell BK134.out 1).trans rfl, (blk_cell BK134.out 2).trans rfl, (blk_cell BK134.out 3).trans rfl, (blk_cell BK134.out 4).trans rfl⟩ (fun hHeld => ?_); refine with_tabW sigv4_Canonical.tab16 sigv4_Canonical.bits16 (fun HT_ HW_ => ?_)
   generalize w41.drew = w44 at HO_10 HO155 BK134 HB hHeld ⊢
   refine puw_ 0 64 1 10 HT_.out (h := ?_)
   refine puw_ 1 65 2 10 HT_.out (h := ?_)
   refine pure_ (i := 3) (N := some 67) (v := ?_) (a' := ?_) #[true, true, false, true, false, false, false, false, false, false] rfl rfl (any_of HT_.out (by kernel_rfl)) (fun _ _ _ h => h) (Or.inl ⟨by rfl, ?_⟩) ?_ ?_
   rotate_left
   ·intro w'
    go_simp
    with_reducible rfl
   rotate_left
   ·simp only [Act.put, spx_]
    rfl
   refine take_ (i := 4) (N := some 68) (v := ?_) (a' := ?_) #[true, true, false, true, true, false, false, false, false, false] rfl rfl (take_ofW HT_.out HW_.out (by kernel_rfl)) (fun _ _ _ h => h) (Or.inl ⟨by rfl, ?_⟩) hHeld ?_ ?_
   rotate_left
   ·rintro w' ⟨s0, s1, s2, s3, s4⟩
    go_simp
    with_reducible rfl
   rotate_left
   ·simp only [Act.put, spx_]
    rfl
   refine one_ (i := 2) (N := some 66) (fl_ 5 10) rfl rfl (one_of HT_.out (by kernel_rfl)) (by decide) (fun K hK => ?_)
   refine goes_ Tryz.func26 (by kernel_rfl) rfl #[.slice A1 l1.length c1, .string (⟨#[59]⟩ : ByteArray)] (by rfl) rfl rfl (by (try simp only [List.map_toArray, List.map_cons, List.map_nil]); first | done | rfl | (simp only [List.length_drop, List.length_take]; rfl)) ?_
   with_reducible refine (strings_Join.calls _ _ l1 (⟨#[59]⟩ : ByteArray) t157 _ ?side1 ?side2 A36.out).mono ?_
   (case side1 => repeat (first | exact (Kd.C_below HR1.out HB.out) | (with_reducible refine Kd.C_alloc ?_ _) | (with_reducible refine Kd.C_drewN ?_ _) | (with_reducible refine Kd.C_drew ?_)))
   (case side2 => exact HC1.out)
   rintro e w45 ⟨rfl, hb⟩
   refine ⟨_, rfl, ?_⟩
   have n0_ := Aside0.mk (Kd.R_below (by (with_reducible repeat (first | apply Kd.R_alloc | apply Kd.R_drewN | apply Kd.R_drew)); exact HO_10.out) hb)
   have n1_ := Aside0.mk (Kd.R_below (by (with_reducible repeat (first | apply Kd.R_alloc | apply Kd.R_drewN | apply Kd.R_drew)); exact HO155.out) hb)
   have n2_ := Aside0.mk (blk_below (g := gb134) (o := .cells #[.string a0_0, .string a0_1, .string a0_2, .slice A0_3 l0_3.length c0_3, .slice A0_4 l0_4.length c0_4] 44 (0, 0)) (by (with_reducible repeat (first | refine blk_drewN ?_ _ | refine blk_drew ?_ | refine blk_alloc ?_ _)); exact BK134.out) hb)
   have n3_ := Aside0.mk (below_step hb1_ hb)
   clear HO_10
   clear HO155
   clear BK134
   clear HB
   have HO_10 := n0_
   have HO155 := n1_
   have BK134 := n2_
   have HB := n3_
   clear n0_ n1_ n2_ n3_
   (try clear hb)
   (try clear hb2)
   (try clear hk)
   (try clear hi)
   refine hK.out _ _ ⟨(blk_cell BK134.out 0).trans rfl, (blk_cell BK134.out 1).trans rfl, (blk_cell BK134.out 2).trans rfl, (blk_cell BK134.out 3).trans rfl, (blk_cell BK134.out 4).trans rfl⟩ (fun hHeld => ?_)
   clear hK K
   refine norm_ (a' := ?_) ?_ ?_
   rotate_left
   ·show Act.put _ (some 66) _ = _
    simp only [Act.put, spx_]
    rfl
   refine one_ (i := 5) (N := some 69) (fl_ 6 10) rfl rfl (one_of HT_.out (by kernel_rfl)) (by decide) (fun K hK => ?_)
   refine goes_ Tryz.func63 (by kernel_rfl) rfl #[.slice A0_4 l0_4.length c0_4] (by rfl) rfl rfl (by (try simp only [List.map_toArray, List.map_cons, List.map_nil]); first | done | rfl | (simp only [List.length_drop, List.length_take]; rfl)) ?_
   with_reducible refine (digest_Sha256.calls _ _ l0_4 t158 _ ?side1 ?side2 A37.out).mono ?_
   (case side1 => repeat (first | exact (Kd.C_below HR0_4.out HB.out) | (with_reducible refine Kd.C_alloc ?_ _) | (with_reducible refine Kd.C_drewN ?_ _) | (with_reducible refine Kd.C_drew ?_)))
   (case side2 => exact HC0_4.out)
   rintro e w46 ⟨v159, rfl, ho0, hb⟩
   refine ⟨_, rfl, ?_⟩
   have n0_ := Aside0.mk (Kd.R_below (by (with_reducible repeat (first | apply Kd.R_alloc | apply Kd.R_drewN | apply Kd.R_drew)); exact HO_10.out) hb)
   have n1_ := Aside0.mk (Kd.R_below (by (with_reducible repeat (first | apply Kd.R_alloc | apply Kd.R_drewN | apply Kd.R_drew)); exact HO155.out) hb)
   have n2_ := Aside0.mk (Kd.R_lower ho0 (below_size hb1_))
   have n3_ := Aside0.mk (blk_below (g := gb134) (o := .cells #[.string a0_0, .string a0_1, .string a0_2, .slice A0_3 l0_3.length c0_3, .slice A0_4 l0_4.length c0_4] 44 (0, 0)) (by (with_reducible repeat (first | refine blk_drewN ?_ _ | refine blk_drew ?_ | refine blk_alloc ?_ _)); exact BK134.out) hb)
   have n4_ := Aside0.mk (below_step hb1_ hb)
   clear HO_10
   clear HO155
   clear BK134
   clear HB
   have HO_10 := n0_
   have HO155 := n1_
   have HO160 := n2_
   have BK134 := n3_
   have HB := n4_
   clear n0_ n1_ n2_ n3_ n4_
   (try clear hb)
   (try clear hb2)
   (try clear hk)
   (try clear hi)
   (try clear ho0)
   obtain ⟨Ao47, co47, eo47⟩ := Kd.R_slice HO160.out
   (first | subst eo47 | (injection eo47 with f1_ f2_ f3_; have f4_ := f1_.symm; have f5_ := f3_.symm; clear f1_ f2_ f3_; subst f4_; subst f5_))
   refine hK.out _ _ ⟨(blk_cell BK134.out 0).trans rfl, (blk_cell BK134.out 1).trans rfl, (blk_cell BK134.out 2).trans rfl, (blk_cell BK134.out 3).trans rfl, (blk_cell BK134.out 4).trans rfl⟩ (fun hHeld => ?_)
   clear hK K
   refine norm_ (a' := ?_) ?_ ?_
   rotate_left
   ·show Act.put _ (some 69) _ = _
    simp only [Act.put, spx_]
    rfl
   refine one_ (i := 6) (N := some 70) (fl_ 7 10) rfl rfl (one_of HT_.out (by kernel_rfl)) (by decide) (fun K hK => ?_)
   refine goes_ Tryz.func62 (by kernel_rfl) rfl #[.slice Ao47 t158.length co47] (by rfl) rfl rfl (by (try simp only [List.map_toArray, List.map_cons, List.map_nil]); first | done | rfl | (simp only [List.length_drop, List.length_take]; rfl)) ?_
   with_reducible refine (digest_Hex.calls _ _ t158 t161 _ ?side1 ?side2 A38.out).mono ?_
   (case side1 => repeat (first | exact (Kd.R_reads' HO160.out).2.2 | (with_reducible refine Kd.C_alloc ?_ _) | (with_reducible refine Kd.C_drewN ?_ _) | (with_reducible refine Kd.C_drew ?_)))
   (case side2 => exact (Kd.R_reads' HO160.out).2.1)
   rintro e w48 ⟨rfl, hb⟩
   refine ⟨_, rfl, ?_⟩
   have n0_ := Aside0.mk (Kd.R_below (by (with_reducible repeat (first | apply Kd.R_alloc | apply Kd.R_drewN | apply Kd.R_drew)); exact HO_10.out) hb)
   have n1_ := Aside0.mk (Kd.R_below (by (with_reducible repeat (first | apply Kd.R_alloc | apply Kd.R_drewN | apply Kd.R_drew)); exact HO155.out) hb)
   have n2_ := Aside0.mk (Kd.R_below (by (with_reducible repeat (first | apply Kd.R_alloc | apply Kd.R_drewN | apply Kd.R_drew)); exact HO160.out) hb)
   have n3_ := Aside0.mk (blk_below (g := gb134) (o := .cells #[.string a0_0, .string a0_1, .string a0_2, .slice A0_3 l0_3.length c0_3, .slice A0_4 l0_4.length c0_4] 44 (0, 0)) (by (with_reducible repeat (first | refine blk_drewN ?_ _ | refine blk_drew ?_ | refine blk_alloc ?_ _)); exact BK134.out) hb)
   have n4_ := Aside0.mk (below_step hb1_ hb)
   clear HO_10
   clear HO155
   clear HO160
   clear BK134
   clear HB
   have HO_10 := n0_
   have HO155 := n1_
   have HO160 := n2_
   have BK134 := n3_
   have HB := n4_
   clear n0_ n1_ n2_ n3_ n4_
   (try clear hb)
   (try clear hb2)
   (try clear hk)
   (try clear hi)
   refine hK.out _ _ ⟨(blk_cell BK134.out 0).trans rfl, (blk_cell BK134.out 1).trans rfl, (blk_cell BK134.out 2).trans rfl, (blk_cell BK134.out 3).trans rfl, (blk_cell BK134.out 4).trans rfl⟩ (fun hHeld => ?_)
   clear hK K
   refine norm_ (a' := ?_) ?_ ?_
   rotate_left
   ·show Act.put _ (some 70) _ = _
    simp only [Act.put, spx_]
    rfl
   refine one_ (i := 7) (N := some 71) (fl_ 8 10) rfl rfl (one_of HT_.out (by kernel_rfl)) (by decide) (fun K hK => ?_)
   refine Kd.R_lit_step Kd.string _ 9 ?hg (N := 71) ?hd (xs := ([(⟨#[]⟩ : ByteArray), t157, t161] : List ByteArray)) (inner := [.string (⟨#[]⟩ : ByteArray), .string t157, .string t161]) (ok := fun _ => True) (okp := fun _ => True) ?hr ?hp (fun _ hk => hk) trivial (Below.refl _ _) (Nat.le_refl _) (by simp) ?_; (case hd => rfl); (case hg => rfl); (case hr => first | (go_simp; done) | (go_simp; rfl)); (case hp => exact (Reps.one (show Kd.M Kd.string _ _ _ (⟨#[]⟩ : ByteArray) [.string (⟨#[]⟩ : ByteArray)] from rfl) (Reps.one (show Kd.M Kd.string _ _ _ t157 [.string t157] from rfl) (Reps.one (show Kd.M Kd.string _ _ _ t161 [.string t161] from rfl) (Reps.none _ _)))))
   intro v163 w49 ho50 hb hg_ hnew_
   clear hg_ hnew_
   (first | rw [← Ny162.out] at ho50 | (simp only [Int.reduceToNat] at ho50; rw [← Ny162.out] at ho50))
   have n0_ := Aside0.mk (Kd.R_elder' (by (with_reducible repeat (first | apply Kd.R_alloc | apply Kd.R_drewN | apply Kd.R_drew)); exact HO_10.out) (Kd.R_base ho50) hb)
   have n1_ := Aside0.mk (Kd.R_below (by (with_reducible repeat (first | apply Kd.R_alloc | apply Kd.R_drewN | apply Kd.R_drew)); exact HO155.out) hb)
   have n2_ := Aside0.mk (Kd.R_below (by (with_reducible repeat (first | apply Kd.R_alloc | apply Kd.R_drewN | apply Kd.R_drew)); exact HO160.out) hb)
   have n3_ := Aside0.mk (Kd.R_lower (Kd.R_new' ho50 (Kd.R_lt (by (with_reducible repeat (first | apply Kd.R_alloc | apply Kd.R_drewN | apply Kd.R_drew)); exact HO_10.out))) (below_size hb1_))
   have n4_ := Aside0.mk (blk_below (g := gb134) (o := .cells #[.string a0_0, .string a0_1, .string a0_2, .slice A0_3 l0_3.length c0_3, .slice A0_4 l0_4.length c0_4] 44 (0, 0)) (by (with_reducible repeat (first | refine blk_drewN ?_ _ | refine blk_drew ?_ | refine blk_alloc ?_ _)); exact BK134.out) hb)
   have n5_ := Aside0.mk (below_step hb1_ hb)
   clear HO_10
   clear HO155
   clear HO160
   clear BK134
   clear HB
   have HO_10 := n0_
   have HO155 := n1_
   have HO160 := n2_
   have HO164 := n3_
   have BK134 := n4_
   have HB := n5_
   clear n0_ n1_ n2_ n3_ n4_ n5_
   clear hb ho50
   obtain ⟨Ao52, co52, eo52⟩ := Kd.R_slice HO164.out
   (first | subst eo52 | (injection eo52 with f1_ f2_ f3_; have f4_ := f1_.symm; have f5_ := f3_.symm; clear f1_ f2_ f3_; subst f4_; subst f5_))
   refine hK.out _ _ ⟨(blk_cell BK134.out 0).trans rfl, (blk_cell BK134.out 1).trans rfl, (blk_cell BK134.out 2).trans rfl, (blk_cell BK134.out 3).trans rfl, (blk_cell BK134.out 4).trans rfl⟩ (fun hHeld => ?_)
   clear hK K
   refine norm_ (a' := ?_) ?_ ?_
   rotate_left
   ·show Act.put _ (some 71) _ = _
    simp only [Act.put, spx_]
    rfl
   refine one_ (i := 8) (N := some 72) (fl_ 9 10) rfl rfl (one_of HT_.out (by kernel_rfl)) (by decide) (fun K hK => ?_)
   refine Kd.R_append_rows_step Kd.string (w0 := w) w.heap.size (by rfl) (.tmp 64) (.tmp 71) 22 9 (.string ⟨#[]⟩) 16 rfl Tryz.underlying22 info9 rfl (by decide) (by omega) u10 x10_1 y162 _ _ _ (fun k_ => some k_ ≠ (.slice Ao52 y162.length co52 : Value).ownBlock) (fun _ => False) rfl rfl ?aO ?aR (fun _ _ h => h) (fun _ h => h.elim) ?aF ?aB ?aS ?aL ?_
   (case aR => repeat (first | exact (Kd.R_reads' HO164.out).2.2 | (with_reducible refine Kd.C_alloc ?_ _) | (with_reducible refine Kd.C_drewN ?_ _) | (with_reducible refine Kd.C_drew ?_)))
   (case aB => exact hb1_)
   (case aF => exact (fun k_ hk => Kd.fresh' (Kd.R_lt (by (with_reducible repeat (first | apply Kd.R_alloc | apply Kd.R_drewN | apply Kd.R_drew)); exact HO164.out)) k_ hk))
   (case aO => exact (by (with_reducible repeat (first | apply Kd.R_alloc | apply Kd.R_drewN | apply Kd.R_drew)); exact Kd.R_mono HO_10.out (fun _ hk => hk.2)))
   (case aS => exact (below_size hb1_))
   (case aL => have := LMc39.out; omega)
   intro v166 w51 ho hb hg hat
   rw [← Ny165.out] at ho
   have n0_ := Aside0.mk (blk_grown (g := gb134) (o := .cells #[.string a0_0, .string a0_1, .string a0_2, .slice A0_3 l0_3.length c0_3, .slice A0_4 l0_4.length c0_4] 44 (0, 0)) (by (with_reducible repeat (first | refine blk_drewN ?_ _ | refine blk_drew ?_ | refine blk_alloc ?_ _)); exact BK134.out) hg (Kd.R_ne HO_10.out BK134.out (by decide)))
   have n1_ := Aside0.mk (Kd.R_over' (by (with_reducible repeat (first | apply Kd.R_alloc | apply Kd.R_drewN | apply Kd.R_drew)); exact HO155.out) (Kd.R_typed (by (with_reducible repeat (first | apply Kd.R_alloc | apply Kd.R_drewN | apply Kd.R_drew)); exact HO_10.out)) (by decide) hg)
   have n2_ := Aside0.mk (Kd.R_over' (by (with_reducible repeat (first | apply Kd.R_alloc | apply Kd.R_drewN | apply Kd.R_drew)); exact HO160.out) (Kd.R_typed (by (with_reducible repeat (first | apply Kd.R_alloc | apply Kd.R_drewN | apply Kd.R_drew)); exact HO_10.out)) (by decide) hg)
   have n3_ := Aside0.mk (Kd.R_after (ok := (fun _ => True)) (by (with_reducible repeat (first | apply Kd.R_alloc | apply Kd.R_drewN | apply Kd.R_drew)); exact HO164.out) hg hat)
   have n4_ := Aside0.mk (hb)
   have n5_ := Aside0.mk (ho)
   clear BK134
   clear HO155
   clear HO160
   clear HO164
   clear HB
   clear HO_10
   have BK134 := n0_
   have HO155 := n1_
   have HO160 := n2_
   have HO164 := n3_
   have HB := n4_
   have HO167 := n5_
   clear n0_ n1_ n2_ n3_ n4_ n5_
   clear ho hb hg hat
   refine hK.out _ _ ⟨(blk_cell BK134.out 0).trans rfl, (blk_cell BK134.out 1).trans rfl, (blk_cell BK134.out 2).trans rfl, (blk_cell BK134.out 3).trans rfl, (blk_cell BK134.out 4).trans rfl⟩ (fun hHeld => ?_)
   clear hK K
   refine norm_ (a' := ?_) ?_ ?_
   rotate_left
   ·show Act.put _ (some 72) _ = _
    simp only [Act.put, spx_]
    rfl
   refine puw_ 9 10 10 10 HT_.out (h := ?_)
   refine done_ (done_of HT_.out (by kernel_rfl)) ?_
   obtain ⟨Ao53, co53, eo53⟩ := Kd.R_slice HO167.out
   subst eo53
   try go_wp2_with (first | ((with_reducible refine gate_callee (f := 26) rfl ?_); refine goesL_ (some 74) rfl rfl Tryz.func26 (by kernel_rfl) rfl #[.slice Ao53 y165.length co53, .string (⟨#[10]⟩ : ByteArray)] rfl (by (try simp only [List.map_toArray, List.map_cons, List.map_nil]); first | done | rfl | (simp only [List.length_drop, List.length_take]; rfl)) ?_; (with_reducible refine (strings_Join.calls _ _ y165 (⟨#[10]⟩ : ByteArray) t168 _ ?side1 ?side2 A40.out).mono ?_); (case side1 => repeat (first | exact (Kd.R_reads' HO167.out).2.2 | (with_reducible refine Kd.C_alloc ?_ _) | (with_reducible refine Kd.C_drewN ?_ _) | (with_reducible refine Kd.C_drew ?_))); (case side2 => exact (Kd.R_reads' HO167.out).2.1); rintro e w54 ⟨rfl, hb⟩; refine ⟨_, rfl, ?_⟩; have n0_ := Aside0.mk (Kd.R_below (by (with_reducible repeat (first | apply Kd.R_alloc | apply Kd.R_drewN | apply Kd.R_drew)); exact HO155.out) hb); have n1_ := Aside0.mk (Kd.R_below (by (with_reducible repeat (first | apply Kd.R_alloc | apply Kd.R_drewN | apply Kd.R_drew)); exact HO160.out) hb); have n2_ := Aside0.mk (Kd.R_below (by (with_reducible repeat (first | apply Kd.R_alloc | apply Kd.R_drewN | apply Kd.R_drew)); exact HO164.out) hb); have n3_ := Aside0.mk (Kd.R_below (by (with_reducible repeat (first | apply Kd.R_alloc | apply Kd.R_drewN | apply Kd.R_drew)); exact HO167.out) hb); have n4_ := Aside0.mk (blk_below (g := gb134) (o := .cells #[.string a0_0, .string a0_1, .string a0_2, .slice A0_3 l0_3.length c0_3, .slice A0_4 l0_4.length c0_4] 44 (0, 0)) (by (with_reducible repeat (first | refine blk_drewN ?_ _ | refine blk_drew ?_ | refine blk_alloc ?_ _)); exact BK134.out) hb); have n5_ := Aside0.mk (below_step hb1_ hb); clear HO155; clear HO160; clear HO164; clear HO167; clear BK134; clear HB; have HO155 := n0_; have HO160 := n1_; have HO164 := n2_; have HO167 := n3_; have BK134 := n4_; have HB := n5_; clear n0_ n1_ n2_ n3_ n4_ n5_; (try clear hb); (try clear hb2); (try clear hk); (try clear hi)))
   go_ret2
   exact ⟨by first | rfl | (simp [errW_none, errW_some] <;> rfl) | (simp [*, errW_none, errW_some] <;> rfl), hb1_⟩
end Go.Proofs.YtghcadbmjglidaaGreatDoor.PSg
end
section
namespace Go.Proofs.YtghcadbmjglidaaGreatDoor.PSg
open Go.RowKit Go.Proofs.YtghcadbmjglidaaGreatDoorW.PrintWords Go.Proofs.YtghcadbmjglidaaGreatDoorW.PrintLast Go.Proofs.YtghcadbmjglidaaGreatDoorW.PrintMore
attribute [local go_sem] max2_int min2_int max_two min_two max_three min_three max_four min_four
set_option linter.unusedVariables false
set_option linter.unusedSimpArgs false
def algB : ByteArray := ⟨#[65, 87, 83, 52, 45, 72, 77, 65, 67, 45, 83, 72, 65, 50, 53, 54]⟩
def signA (k : Nat) (a0 m p q : ByteArray) (hs : List S55) (body : List Int) (ns : List ByteArray) (t : Int) : Option (ByteArray × Int) :=
 (clock_Show.f t).bind fun s =>
  if s.2 = 0 then
   (sigv4_Canonical.f k m p q hs body ns).bind fun c =>
    if c.2 = 0 then
     if a0.size ≤ 1000000 ∧ 8 ≤ s.1.size ∧ s.1.size ≤ 1000 ∧ c.1.size ≤ 1000000000 then
      (sigv4_scope.f (s.1.extract 0 8)).bind fun sc =>
       if sc.size ≤ 1000 then
        some (ba (hexZ (chainN (keyN (bl a0) (bl (s.1.extract 0 8))) [Uri.jn [10] [bl algB, bl s.1, bl sc, hexZ (shaOf (nb (bl c.1)))]])), 0)
       else none
     else none
    else some (⟨#[]⟩, c.2)
  else some (⟨#[]⟩, s.2)
def sigv4_Sign.f (k : Nat) (a0 : ByteArray) (a1_0 : ByteArray) (a1_1 : ByteArray) (a1_2 : ByteArray) (l1_3 : List (S55)) (l1_4 : List Int) (l2 : List ByteArray) (a3 : Int) : Option (ByteArray × Int) := signA k a0 a1_0 a1_1 a1_2 l1_3 l1_4 l2 a3
set_option maxRecDepth 100000 in
set_option maxHeartbeats 4000000 in
theorem sigv4_Sign.calls (k : Nat) (a0 : ByteArray) (a1_0 : ByteArray) (a1_1 : ByteArray) (a1_2 : ByteArray) (A1_3 : Option Addr) (c1_3 : Nat) (l1_3 : List (S55)) (A1_4 : Option Addr) (c1_4 : Nat) (l1_4 : List Int) (A2 : Option Addr) (c2 : Nat) (l2 : List ByteArray) (a3 : Int) (r1 : ByteArray) (r2 : Int) (w : World) (hr1_3 : Kd.C k55 w A1_3 l1_3.length l1_3) (hc1_3 : l1_3.length ≤ c1_3) (hr1_4 : Kd.C (Kd.int .u8) w A1_4 l1_4.length l1_4) (hc1_4 : l1_4.length ≤ c1_4) (hr2 : Kd.C Kd.string w A2 l2.length l2) (hc2 : l2.length ≤ c2) (h : sigv4_Sign.f k a0 a1_0 a1_1 a1_2 l1_3 l1_4 l2 a3 = some (r1, r2)) :
    Calls Tryz.prog 33 #[.string a0, .agg #[.string a1_0, .string a1_1, .string a1_2, .slice A1_3 l1_3.length c1_3, .slice A1_4 l1_4.length c1_4], .slice A2 l2.length c2, .int .u64 a3] w fun e w' => e = .returned (.tuple #[.string r1, .int .i64 r2]) ∧ Below w.heap.size w w' := by
  unfold sigv4_Sign.f signA at h
  cases hs : clock_Show.f a3 with
  | none => rw [hs] at h; cases h
  | some s =>
  rw [hs] at h
  obtain ⟨s1, s2⟩ := s
  have HS := Lib.hid hs
  clear hs
  have R1 := Lib.hid hr1_3
  have R2 := Lib.hid hr1_4
  have R3 := Lib.hid hr2
  clear hr1_3 hr1_4 hr2
  by_cases hs2 : s2 = 0
  case neg =>
    have h : (if s2 = 0 then _ else some ((⟨#[]⟩ : ByteArray), s2)) = some (r1, r2) := h
    rw [if_neg hs2] at h
    obtain ⟨rfl, rfl⟩ : (⟨#[]⟩ : ByteArray) = r1 ∧ s2 = r2 := by injection h with h; injection h with h1 h2; exact ⟨h1, h2⟩
    have hq : (s2 != 0) = true := by simpa using hs2
    clear hs2 h
    obtain ⟨W0, hW0⟩ : ∃ W0, W0 = w.alloc (.cells #[.string a1_0, .string a1_1, .string a1_2, .slice A1_3 l1_3.length c1_3, .slice A1_4 l1_4.length c1_4] 44) := ⟨_, rfl⟩
    have bk0 : W0.heap[w.heap.size]? = some (.cells #[.string a1_0, .string a1_1, .string a1_2, .slice A1_3 l1_3.length c1_3, .slice A1_4 l1_4.length c1_4] 44 (0, 0)) := by rw [hW0]; exact heap_alloc_new w _
    have f0 : Fr (fun _ => False) w W0 := by rw [hW0]; exact (Fr.refl _ _).alloc _
    have F0 := Lib.hid f0
    have BK0 := Lib.hid bk0
    clear f0 bk0
    go_enter Tryz.func33, Tryz.ntmps33
    go_wp2_with fail
    rw [← hW0]
    clear hW0
    go_wp2_with (first
      | (go_at_call 29; refine (clock_Show.calls a3 s1 s2 W0 HS.out).mono ?_; rintro e w1 ⟨rfl, hb1⟩
         have F1 := Lib.hid (F0.out.trans (Fr.of_below0 hb1))
         have bk := (Fr.of_below0 hb1).heap BK0.out id
         have b0 := (blk_cell bk 0).trans rfl
         have b1 := (blk_cell bk 1).trans rfl
         have b2 := (blk_cell bk 2).trans rfl
         have b3 := (blk_cell bk 3).trans rfl
         have b4 := (blk_cell bk 4).trans rfl
         clear hb1 bk F0 BK0))
    go_ret2
    exact ⟨rfl, F1.out.below (Nat.le_refl _) (fun _ _ => id)⟩
  case pos =>
  subst hs2
  have h : (sigv4_Canonical.f k a1_0 a1_1 a1_2 l1_3 l1_4 l2).bind _ = some (r1, r2) := h
  cases hc : sigv4_Canonical.f k a1_0 a1_1 a1_2 l1_3 l1_4 l2 with
  | none => rw [hc] at h; cases h
  | some c =>
  rw [hc] at h
  obtain ⟨c1, c9⟩ := c
  have HC := Lib.hid hc
  clear hc
  by_cases hc9 : c9 = 0
  case neg =>
    have h : (if c9 = 0 then _ else some ((⟨#[]⟩ : ByteArray), c9)) = some (r1, r2) := h
    rw [if_neg hc9] at h
    obtain ⟨rfl, rfl⟩ : (⟨#[]⟩ : ByteArray) = r1 ∧ c9 = r2 := by injection h with h; injection h with h1 h2; exact ⟨h1, h2⟩
    have hq : (c9 != 0) = true := by simpa using hc9
    clear hc9 h
    obtain ⟨W0, hW0⟩ : ∃ W0, W0 = w.alloc (.cells #[.string a1_0, .string a1_1, .string a1_2, .slice A1_3 l1_3.length c1_3, .slice A1_4 l1_4.length c1_4] 44) := ⟨_, rfl⟩
    have bk0 : W0.heap[w.heap.size]? = some (.cells #[.string a1_0, .string a1_1, .string a1_2, .slice A1_3 l1_3.length c1_3, .slice A1_4 l1_4.length c1_4] 44 (0, 0)) := by rw [hW0]; exact heap_alloc_new w _
    have f0 : Fr (fun _ => False) w W0 := by rw [hW0]; exact (Fr.refl _ _).alloc _
    have F0 := Lib.hid f0
    have BK0 := Lib.hid bk0
    clear f0 bk0
    go_enter Tryz.func33, Tryz.ntmps33
    go_wp2_with fail
    rw [← hW0]
    clear hW0
    go_wp2_with (first
      | (go_at_call 29; refine (clock_Show.calls a3 s1 0 W0 HS.out).mono ?_; rintro e w1 ⟨rfl, hb1⟩
         have F1 := Lib.hid (F0.out.trans (Fr.of_below0 hb1))
         have bk := (Fr.of_below0 hb1).heap BK0.out id
         have b0 := (blk_cell bk 0).trans rfl
         have b1 := (blk_cell bk 1).trans rfl
         have b2 := (blk_cell bk 2).trans rfl
         have b3 := (blk_cell bk 3).trans rfl
         have b4 := (blk_cell bk 4).trans rfl
         clear hb1 bk F0 BK0)
      | (go_at_call 61; refine (sigv4_Canonical.calls k a1_0 a1_1 a1_2 A1_3 c1_3 l1_3 A1_4 c1_4 l1_4 A2 c2 l2 c1 c9 w1 (Kd.C_below R1.out (F1.out.below (Nat.le_refl _) (fun _ _ => id))) hc1_3 (Kd.C_below R2.out (F1.out.below (Nat.le_refl _) (fun _ _ => id))) hc1_4 (Kd.C_below R3.out (F1.out.below (Nat.le_refl _) (fun _ _ => id))) hc2 HC.out).mono ?_; rintro e w2 ⟨rfl, hb2⟩
         have F2 := Lib.hid (F1.out.trans (Fr.of_below0 hb2))
         clear hb2 b0 b1 b2 b3 b4 F1))
    go_ret2
    exact ⟨rfl, F2.out.below (Nat.le_refl _) (fun _ _ => id)⟩
  case pos =>
  subst hc9
  have h : (if a0.size ≤ 1000000 ∧ 8 ≤ s1.size ∧ s1.size ≤ 1000 ∧ c1.size ≤ 1000000000 then _ else none) = some (r1, r2) := h
  split at h
  case isFalse => cases h
  case isTrue hb =>
  cases hsc : sigv4_scope.f (s1.extract 0 8) with
  | none => rw [hsc] at h; cases h
  | some sc =>
  rw [hsc] at h
  have HSC := Lib.hid hsc
  clear hsc
  have h : (if sc.size ≤ 1000 then _ else none) = some (r1, r2) := h
  split at h
  case isFalse => cases h
  case isTrue hsz =>
  have hE := Lib.hid (Option.some.inj h)
  have hconv := fun W => Lib.run_convert_string_bytes (P := Tryz.prog) W 9 37 5 c1 Tryz.underlying9 Tryz.underlying37 Tryz.underlying5
  have hl0 : (bl a0).length ≤ 1000000 := by rw [bl_len]; exact hb.1
  have hl8 : (bl (s1.extract 0 8)).length ≤ 100000000 := by rw [bl_len, ByteArray.size_extract]; omega
  have hxl : (hexZ (shaOf (nb (bl c1)))).length = 64 := by rw [hexZ_len, shaOf_len32]
  have hsum : ([bl algB, bl s1, bl sc, hexZ (shaOf (nb (bl c1)))].map List.length).sum ≤ 10000000000 := by
    have e1 : (bl s1).length = s1.size := bl_len _
    have e2 : (bl sc).length = sc.size := bl_len _
    have e3 : (bl algB).length = 16 := rfl
    simp only [List.map_cons, List.map_nil, List.sum_cons, List.sum_nil, e1, e2, e3, hxl]
    omega
  have hTl : (Uri.jn [10] [bl algB, bl s1, bl sc, hexZ (shaOf (nb (bl c1)))]).length ≤ 1000000000 := by
    have e1 : (bl s1).length = s1.size := bl_len _
    have e2 : (bl sc).length = sc.size := bl_len _
    have e3 : (bl algB).length = 16 := rfl
    have := Uri.jn_len [10] [bl algB, bl s1, bl sc, hexZ (shaOf (nb (bl c1)))]
    simp only [List.map_cons, List.map_nil, List.sum_cons, List.sum_nil, e1, e2, e3, hxl, List.length_cons, List.length_nil] at this
    omega
  have hk1 : str (bl a0) = .string a0 := congrArg Value.string (Lib.mk_data a0)
  have hk2 : str (bl (s1.extract 0 8)) = .string (s1.extract 0 8) := congrArg Value.string (Lib.mk_data _)
  have HSZ := Lib.hid hsz
  have h8 := hb.2.1
  clear h hsz hxl
  obtain ⟨W0, hW0⟩ : ∃ W0, W0 = w.alloc (.cells #[.string a1_0, .string a1_1, .string a1_2, .slice A1_3 l1_3.length c1_3, .slice A1_4 l1_4.length c1_4] 44) := ⟨_, rfl⟩
  have bk0 : W0.heap[w.heap.size]? = some (.cells #[.string a1_0, .string a1_1, .string a1_2, .slice A1_3 l1_3.length c1_3, .slice A1_4 l1_4.length c1_4] 44 (0, 0)) := by rw [hW0]; exact heap_alloc_new w _
  have f0 : Fr (fun _ => False) w W0 := by rw [hW0]; exact (Fr.refl _ _).alloc _
  have F0 := Lib.hid f0
  have BK0 := Lib.hid bk0
  clear f0 bk0
  go_enter Tryz.func33, Tryz.ntmps33
  go_wp2_with fail
  rw [← hW0]
  clear hW0
  go_wp2_with (first
    | (go_at_call 29; refine (clock_Show.calls a3 s1 0 W0 HS.out).mono ?_; rintro e w1 ⟨rfl, hb1⟩
       have F1 := Lib.hid (F0.out.trans (Fr.of_below0 hb1))
       have bk := (Fr.of_below0 hb1).heap BK0.out id
       have b0 := (blk_cell bk 0).trans rfl
       have b1 := (blk_cell bk 1).trans rfl
       have b2 := (blk_cell bk 2).trans rfl
       have b3 := (blk_cell bk 3).trans rfl
       have b4 := (blk_cell bk 4).trans rfl
       clear hb1 bk F0 BK0)
    | (go_at_call 61; refine (sigv4_Canonical.calls k a1_0 a1_1 a1_2 A1_3 c1_3 l1_3 A1_4 c1_4 l1_4 A2 c2 l2 c1 0 w1 (Kd.C_below R1.out (F1.out.below (Nat.le_refl _) (fun _ _ => id))) hc1_3 (Kd.C_below R2.out (F1.out.below (Nat.le_refl _) (fun _ _ => id))) hc1_4 (Kd.C_below R3.out (F1.out.below (Nat.le_refl _) (fun _ _ => id))) hc2 HC.out).mono ?_; rintro e w2 ⟨rfl, hb2⟩
       have F2 := Lib.hid (F1.out.trans (Fr.of_below0 hb2))
       clear hb2 b0 b1 b2 b3 b4 F1)
    | (go_at_call 20; refine (sigv4_scope.calls (s1.extract 0 8) sc w2 HSC.out).mono ?_; rintro e w3 ⟨rfl, hb3⟩
       have F3 := Lib.hid (F2.out.trans (Fr.of_below0 hb3))
       clear hb3 F2)
    | (go_at_call 63; refine (sha_conv c1 w3 hb.2.2.2).mono ?_; rintro e w4 ⟨v4, rfl, hO4, hF4⟩
       have F4 := Lib.hid ((F3.out.bytesWorld _ _).trans hF4)
       have HX := Lib.hid (hex_own v4 _ _ w4 hO4 (shaOf_len32 _) (sha_lt _))
       clear hO4 hF4 F3)
    | (go_at_call 62; refine HX.out.mono ?_; clear HX; rintro e w5 ⟨rfl, hb5⟩
       have F5 := Lib.hid (F4.out.trans (Fr.of_below0 hb5))
       have HJ := Lib.hid (strings_JoinA [bl algB, bl s1, bl sc, hexZ (shaOf (nb (bl c1)))] [10] (some ⟨w5.heap.size, 0, none⟩) 4 (w5.alloc (.cells #[.string algB, .string s1, .string sc, str (hexZ (shaOf (nb (bl c1))))] 9)) (fun _ => ⟨_, rfl, fun i hi => by
         rw [addr_add0]
         rw [Lib.cell_of_heap (heap_alloc_new w5 _)]
         match i, hi with
         | 0, _ => rfl
         | 1, _ => exact congrArg some (congrArg Value.string (Lib.mk_data _)).symm
         | 2, _ => exact congrArg some (congrArg Value.string (Lib.mk_data _)).symm
         | 3, _ => rfl⟩) (by simp) (by simp) hsum (Nat.le_refl _))
       clear hb5 F4)
    | (go_at_call 26; refine HJ.out.mono ?_; clear HJ; rintro e w6 ⟨rfl, hb6⟩
       have F6 := Lib.hid ((F5.out.alloc _).trans (Fr.of_below0 hb6))
       have hky := key_any (bl a0) (bl (s1.extract 0 8)) hl0 hl8 w6
       rw [hk1, hk2] at hky
       have HKy := Lib.hid hky
       clear hky
       clear hb6 F5)
    | (go_at_call 65; refine HKy.out.mono ?_; clear HKy; rintro e w7 ⟨v7, rfl, hO7, hF7⟩
       have F7 := Lib.hid (F6.out.trans hF7)
       have HCh := Lib.hid (chain_one _ v7 _ _ w7 hO7 (keyN_len32 _ _) (keyN_lt _ _) hTl)
       clear hO7 hF7 F6)
    | (go_at_call 64; refine HCh.out.mono ?_; clear HCh; rintro e w8 ⟨v8, rfl, hO8, hF8⟩
       have F8 := Lib.hid ((F7.out.alloc _).trans hF8)
       have HX8 := Lib.hid (hex_own v8 _ _ w8 hO8 (chainN_len _ _) (chainN_lt _ _))
       clear hO8 hF8 F7)
    | (go_at_call 62; refine HX8.out.mono ?_; clear HX8; rintro e w9 ⟨rfl, hb9⟩
       have F9 := Lib.hid (F8.out.trans (Fr.of_below0 hb9))
       clear hb9 F8))
  obtain ⟨h1, h2⟩ := Prod.mk.inj hE.out
  subst h1
  subst h2
  go_ret2
  exact ⟨rfl, F9.out.below (Nat.le_refl _) (fun _ _ => id)⟩
def slices_Clone_byte_byte.f (l0 : List Int) : Option (List Int) := if l0.length < 4000000000 then some l0 else none
set_option maxRecDepth 100000 in
set_option maxHeartbeats 4000000 in
theorem slices_Clone_byte_byte.calls (A0 : Option Addr) (c0 : Nat) (l0 : List Int) (r : List Int) (w : World) (hr0 : Kd.C (Kd.int .u8) w A0 l0.length l0) (hc0 : l0.length ≤ c0) (h : slices_Clone_byte_byte.f l0 = some r) :
  Calls Tryz.prog 34 #[.slice A0 l0.length c0] w fun e w' => ∃ v0_ : Value, e = .returned (v0_) ∧ Kd.R (Kd.int .u8) 5 w' w.heap.size (fun _ => True) v0_ r ∧ Below w.heap.size w w' := by
 unfold slices_Clone_byte_byte.f at h
 split at h
 case isFalse => cases h
 case isTrue hl =>
 obtain rfl := Option.some.inj h
 have huL := Tryz.underlying37
 have hnil := fun (A : Option Addr) (W : World) => Lib.run_eql_slice_nil (P := Tryz.prog) W 37 _ A l0.length c0 0 0 huL
 clear h
 rcases A0 with _ | ad
 ·have h0 : l0 = [] := by
   rcases l0 with _ | ⟨x, t⟩
   ·rfl
   ·obtain ⟨ad, h9, _⟩ := hr0.2.2 (by simp)
    cases h9
  subst h0
  clear hr0
  simp only [List.length_nil] at hnil
  go_enter Tryz.func34, Tryz.ntmps34
  go_wp2
  go_ret
  exact ⟨.slice none 0 0, rfl, Kd.R_nil _ _ _ _ _, by repeat (first | exact Below.refl _ _ | refine below_alloc ?_ _)⟩
 ·have HR := Aside0.mk hr0
  have hE : ∀ W : World, Kd.R (Kd.int .u8) 5 (W.alloc (.cells #[] 5)) W.heap.size (fun _ => True) (.slice (some ⟨W.heap.size, 0, none⟩) 0 0) [] := fun W => ⟨fun _ _ => trivial, [], own_empty (heap_alloc_new W _) (Nat.le_refl _), Reps.none _ _⟩
  clear hr0
  go_enter Tryz.func34, Tryz.ntmps34
  go_wp2_with (at_builtin; refine Kd.R_append_rows (Kd.int .u8) (w0 := w) w.heap.size rfl (.tmp 5) (.tmp 6) 37 5 (.int .u8 0) 1 rfl huL info5 rfl (by decide) (by omega) (.slice (some ⟨w.heap.size, 0, none⟩) 0 0) [] l0 (some ad) l0.length c0 (fun _ => True) (fun _ => False) rfl rfl (hE w) (Kd.C_alloc HR.out _) (fun _ _ h => h) (fun _ h => h.elim) (fun _ _ => trivial) (below_alloc (Below.refl _ _) _) (by simp) (by simp only [List.length_nil]; omega) ?_; intro v1 w1 hO hB hg_ hn_)
  go_ret
  exact ⟨v1, rfl, hO, hB⟩
end Go.Proofs.YtghcadbmjglidaaGreatDoor.PSg
end
