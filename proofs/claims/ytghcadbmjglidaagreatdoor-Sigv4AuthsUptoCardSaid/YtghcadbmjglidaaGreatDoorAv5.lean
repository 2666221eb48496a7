/- Texts of this proof, laid together: PSgx7, PSgx9. -/
import Derived.Test.YtghcadbmjglidaaGreatDoorAv4
set_option linter.unusedVariables false
set_option linter.unusedSimpArgs false
section
namespace Go.Proofs.YtghcadbmjglidaaGreatDoor.PSg
open Go.RowKit Go.Proofs.YtghcadbmjglidaaGreatDoorW.PrintWords Go.Proofs.YtghcadbmjglidaaGreatDoorW.PrintLast Go.Proofs.YtghcadbmjglidaaGreatDoorW.PrintMore
attribute [local go_sem] max2_int min2_int max_two min_two max_three min_three max_four min_four
set_option linter.unusedVariables false
set_option linter.unusedSimpArgs false
mutual
def sigv4_Attach.j0 : Nat → ByteArray → ByteArray → Int → ByteArray → Bool → ByteArray → ByteArray → ByteArray → List (S55) → List Int → Option (ByteArray × ByteArray × ByteArray × (List (S55)) × List Int × Int)
 | 0, _, _, _, _, _, _, _, _, _, _ => none
 | k + 1, x1, x2, x3, x10, x48, x171000, x171001, x171002, x171003, x171004 => if x48 = true then (some ((⟨#[]⟩ : ByteArray), (⟨#[]⟩ : ByteArray), (⟨#[]⟩ : ByteArray), ([] : List (S55)), ([] : List Int), 11)) else ((request_Header_31.f x171003).bind fun t178 => (if t178.length < 4398046511104 then ((some (t178 ++ [(⟨(⟨#[120, 45, 97, 109, 122, 45, 100, 97, 116, 101]⟩ : ByteArray), x10⟩ : S55)] : List (S55))).bind fun y181 => (if 0 ≤ 8 then (if 8 ≤ (x10.size : Int) then (sigv4_Attach.l0 k x2 x3 y181 (y181.length : Int) 0 x171000 x171001 x171002 y181 x171004 x1 (x10.extract 0 8) ([] : List ByteArray) (⟨#[]⟩ : ByteArray)) else (none)) else (none))) else (none)))
def sigv4_Attach.l0 : Nat → ByteArray → Int → List (S55) → Int → Int → ByteArray → ByteArray → ByteArray → List (S55) → List Int → ByteArray → ByteArray → List ByteArray → ByteArray → Option (ByteArray × ByteArray × ByteArray × (List (S55)) × List Int × Int)
 | 0, _, _, _, _, _, _, _, _, _, _, _, _, _, _ => none
 | k + 1, x2, x3, x63, x64, x65, x171000, x171001, x171002, x171003, x171004, x185000, x185001, x185002, x185003 => if x65 < x64 then (if 0 ≤ x65 then (if x65 < (x63.length : Int) then (if x185002.length < 8796093022208 then (sigv4_Attach.l0 k x2 x3 x63 x64 (wrap64 (x65 + 1)) x171000 x171001 x171002 x171003 x171004 x185000 x185001 (x185002 ++ [(rd_T55 x63 x65).f0]) x185003) else (none)) else (none)) else (none)) else ((slices_Sort_string_string.f x185002).bind fun t190 => ((sigv4_Sign.f k x2 x171000 x171001 x171002 x171003 x171004 t190 x3).bind fun bt191 => (if bt191.2 = 0 then ((sigv4_right.f k x185000 x185001 t190 bt191.1).bind fun t193 => (if t193 = true then ((sigv4_ShowAuth.f x185000 x185001 t190 bt191.1).bind fun t194 => (if x171003.length < 4398046511104 then ((slices_Clone_byte_byte.f x171004).bind fun t198 => (some (x171000, x171001, x171002, (x171003 ++ [(⟨(⟨#[97, 117, 116, 104, 111, 114, 105, 122, 97, 116, 105, 111, 110]⟩ : ByteArray), t194⟩ : S55)]), t198, 0))) else (none))) else (some ((⟨#[]⟩ : ByteArray), (⟨#[]⟩ : ByteArray), (⟨#[]⟩ : ByteArray), ([] : List (S55)), ([] : List Int), 20)))) else (some ((⟨#[]⟩ : ByteArray), (⟨#[]⟩ : ByteArray), (⟨#[]⟩ : ByteArray), ([] : List (S55)), ([] : List Int), bt191.2)))))
end
def sigv4_Attach.f (k : Nat) (a0_0 : ByteArray) (a0_1 : ByteArray) (a0_2 : ByteArray) (l0_3 : List (S55)) (l0_4 : List Int) (a1 : ByteArray) (a2 : ByteArray) (a3 : Int) : Option (ByteArray × ByteArray × ByteArray × (List (S55)) × List Int × Int) := (clock_Show.f a3).bind fun bt172 => (if bt172.2 = 0 then ((request_Get.f a0_0 a0_1 a0_2 l0_3 l0_4 (⟨#[97, 117, 116, 104, 111, 114, 105, 122, 97, 116, 105, 111, 110]⟩ : ByteArray)).bind fun bt174 => ((request_Get.f a0_0 a0_1 a0_2 l0_3 l0_4 (⟨#[120, 45, 97, 109, 122, 45, 100, 97, 116, 101]⟩ : ByteArray)).bind fun bt176 => (if bt174.2 = true then (sigv4_Attach.j0 k a1 a2 a3 bt172.1 true a0_0 a0_1 a0_2 l0_3 l0_4) else (if bt176.2 = true then (sigv4_Attach.j0 k a1 a2 a3 bt172.1 true a0_0 a0_1 a0_2 l0_3 l0_4) else (sigv4_Attach.j0 k a1 a2 a3 bt172.1 (decide ((wrap64 ((l0_3.length : Int) + 2)) > 24)) a0_0 a0_1 a0_2 l0_3 l0_4))))) else (some ((⟨#[]⟩ : ByteArray), (⟨#[]⟩ : ByteArray), (⟨#[]⟩ : ByteArray), ([] : List (S55)), ([] : List Int), bt172.2)))
def sigv4_Attach.T21 : Bool × List (List Nat × List Nat) := (true, [([], []), ([0], [0]), ([], []), ([2], [2]), ([3], [3]), ([4], [4]), ([1, 5, 3], [1, 5]), ([0, 1, 2, 3, 4, 5, 6], []), ([7, 6, 6, 0, 1, 2, 3, 4, 5, 6], [6, 7])])
def sigv4_Attach.B21 : List Nat := [0, 1, 0, 4, 12, 28, 63, 127, 255]
theorem sigv4_Attach.tab21 : rtab .any (opsOf Tryz.f13 21) = sigv4_Attach.T21 := by kernel_rfl
theorem sigv4_Attach.bits21 : waitsOk sigv4_Attach.T21.2 sigv4_Attach.B21 = true := by kernel_rfl
set_option maxHeartbeats 8000000 in
set_option maxRecDepth 100000 in
theorem sigv4_Attach.calls (k : Nat) (a0_0 : ByteArray) (a0_1 : ByteArray) (a0_2 : ByteArray) (A0_3 : Option Addr) (c0_3 : Nat) (l0_3 : List (S55)) (A0_4 : Option Addr) (c0_4 : Nat) (l0_4 : List Int) (a1 : ByteArray) (a2 : ByteArray) (a3 : Int) (r1 : ByteArray) (r2 : ByteArray) (r3 : ByteArray) (r4 : List (S55)) (r5 : List Int) (r6 : Int) (w : World) (hr0_3 : Kd.C k55 w A0_3 l0_3.length l0_3) (hc0_3 : l0_3.length ≤ c0_3) (hr0_4 : Kd.C (Kd.int .u8) w A0_4 l0_4.length l0_4) (hc0_4 : l0_4.length ≤ c0_4) (h : sigv4_Attach.f k a0_0 a0_1 a0_2 l0_3 l0_4 a1 a2 a3 = some (r1, r2, r3, r4, r5, r6)) :
  Calls Tryz.prog 13 #[.agg #[.string a0_0, .string a0_1, .string a0_2, .slice A0_3 l0_3.length c0_3, .slice A0_4 l0_4.length c0_4], .string a1, .string a2, .int .u64 a3] w fun e w' => ∃ v3_ v4_ : Value, e = .returned (.tuple #[.agg #[.string r1, .string r2, .string r3, v3_, v4_], .int .i64 r6]) ∧ Kd.R k55 55 w' w.heap.size (fun _ => True) v3_ r4 ∧ Kd.R (Kd.int .u8) 5 w' w.heap.size (fun _ => True) v4_ r5 ∧ Below w.heap.size w w' := by
 have hu44 := Tryz.underlying44
 have hu55 := Tryz.underlying55
 have hu26 := Tryz.underlying26
 have HR0_3 := Aside0.mk hr0_3
 have HC0_3 := Aside0.mk hc0_3
 clear hr0_3 hc0_3
 have HR0_4 := Aside0.mk hr0_4
 have HC0_4 := Aside0.mk hc0_4
 clear hr0_4 hc0_4
 have HB := Aside0.mk (Below.refl w.heap.size w)
 have H : ((clock_Show.f a3).bind fun bt172 => (if bt172.2 = 0 then ((request_Get.f a0_0 a0_1 a0_2 l0_3 l0_4 (⟨#[97, 117, 116, 104, 111, 114, 105, 122, 97, 116, 105, 111, 110]⟩ : ByteArray)).bind fun bt174 => ((request_Get.f a0_0 a0_1 a0_2 l0_3 l0_4 (⟨#[120, 45, 97, 109, 122, 45, 100, 97, 116, 101]⟩ : ByteArray)).bind fun bt176 => (if bt174.2 = true then (sigv4_Attach.j0 k a1 a2 a3 bt172.1 true a0_0 a0_1 a0_2 l0_3 l0_4) else (if bt176.2 = true then (sigv4_Attach.j0 k a1 a2 a3 bt172.1 true a0_0 a0_1 a0_2 l0_3 l0_4) else (sigv4_Attach.j0 k a1 a2 a3 bt172.1 (decide ((wrap64 ((l0_3.length : Int) + 2)) > 24)) a0_0 a0_1 a0_2 l0_3 l0_4))))) else (some ((⟨#[]⟩ : ByteArray), (⟨#[]⟩ : ByteArray), (⟨#[]⟩ : ByteArray), ([] : List (S55)), ([] : List Int), bt172.2)))) = some (r1, r2, r3, r4, r5, r6) := h
 clear h
 replace H := Option.bind_eq_some_iff.mp H
 obtain ⟨⟨t172, t173⟩, A50, H⟩ := H
 replace H : (if t173 = 0 then ((request_Get.f a0_0 a0_1 a0_2 l0_3 l0_4 (⟨#[97, 117, 116, 104, 111, 114, 105, 122, 97, 116, 105, 111, 110]⟩ : ByteArray)).bind fun bt174 => ((request_Get.f a0_0 a0_1 a0_2 l0_3 l0_4 (⟨#[120, 45, 97, 109, 122, 45, 100, 97, 116, 101]⟩ : ByteArray)).bind fun bt176 => (if bt174.2 = true then (sigv4_Attach.j0 k a1 a2 a3 t172 true a0_0 a0_1 a0_2 l0_3 l0_4) else (if bt176.2 = true then (sigv4_Attach.j0 k a1 a2 a3 t172 true a0_0 a0_1 a0_2 l0_3 l0_4) else (sigv4_Attach.j0 k a1 a2 a3 t172 (decide ((wrap64 ((l0_3.length : Int) + 2)) > 24)) a0_0 a0_1 a0_2 l0_3 l0_4))))) else (some ((⟨#[]⟩ : ByteArray), (⟨#[]⟩ : ByteArray), (⟨#[]⟩ : ByteArray), ([] : List (S55)), ([] : List Int), t173))) = some (r1, r2, r3, r4, r5, r6) := H
 have A5 := Aside0.mk A50
 clear A50
 by_cases c6 : t173 = 0
 rotate_left
 ·rw [if_neg c6] at H
  have c6b0 : (t173 == 0) = false := beq_eq_false_iff_ne.mpr c6
  have c6b1 : (t173 != 0) = true := bne_iff_ne.mpr c6
  simp only [Option.some.injEq, Prod.mk.injEq] at H
  obtain ⟨rfl, rfl, rfl, rfl, rfl, rfl⟩ := H
  go_enter Tryz.func13, Tryz.ntmps13
  go_wp2_with (first | ((with_reducible refine gate_dst (N := 4) rfl ?_); (try (refine gate_guard (by rfl) ?_; dsimp only)); refine box_event ?hg (N := 4) ?hd (cs := #[.string a0_0, .string a0_1, .string a0_2, .slice A0_3 l0_3.length c0_3, .slice A0_4 l0_4.length c0_4]) (t := 44) ?hr ?_; (case hd => rfl); (case hg => rfl); (case hr => first | (go_simp; done) | (go_simp; rfl)); intro gb170 hg w107 hbox hb; have n0_ := Aside0.mk (below_step hb0_ hb); have n1_ := Aside0.mk (hbox); have n2_ := Aside0.mk ((by rw [hg]; exact (below_size hb0_) : w.heap.size ≤ gb170)); have n3_ := Aside0.mk ((by rw [hg]; exact (below_size hb0_) : w.heap.size ≤ gb170)); clear HB; have HB := n0_; have BK170 := n1_; have GW170 := n2_; have GE170 := n3_; clear n0_ n1_ n2_ n3_; clear hb hbox hg) | ((with_reducible refine gate_dst (N := 8) rfl ?_); (try (refine gate_guard (by rfl) ?_; dsimp only)); refine box_event ?hg (N := 8) ?hd (cs := #[.string (⟨#[]⟩ : ByteArray), .string (⟨#[]⟩ : ByteArray), .string (⟨#[]⟩ : ByteArray), .slice none 0 0, .slice none 0 0]) (t := 44) ?hr ?_; (case hd => rfl); (case hg => rfl); (case hr => first | (go_simp; done) | (go_simp; rfl)); intro gb171 hg w108 hbox hb; have n0_ := Aside0.mk (blk_below (g := gb170) (o := .cells #[.string a0_0, .string a0_1, .string a0_2, .slice A0_3 l0_3.length c0_3, .slice A0_4 l0_4.length c0_4] 44 (0, 0)) (by (with_reducible repeat (first | refine blk_drewN ?_ _ | refine blk_drew ?_ | refine blk_alloc ?_ _)); exact BK170.out) hb); have n1_ := Aside0.mk (below_step hb10_ hb); have n2_ := Aside0.mk (hbox); have n3_ := Aside0.mk ((by rw [hg]; exact (below_size hb10_) : w.heap.size ≤ gb171)); have n4_ := Aside0.mk ((by rw [hg]; exact (below_size hb10_) : w.heap.size ≤ gb171)); have n5_ := Aside0.mk ((by rw [hg]; exact Nat.ne_of_lt (blk_lt (g := gb170) (o := .cells #[.string a0_0, .string a0_1, .string a0_2, .slice A0_3 l0_3.length c0_3, .slice A0_4 l0_4.length c0_4] 44 (0, 0)) (by (with_reducible repeat (first | refine blk_drewN ?_ _ | refine blk_drew ?_ | refine blk_alloc ?_ _)); exact BK170.out)) : gb170 ≠ gb171)); have n6_ := Aside0.mk ((by rw [hg]; exact Nat.ne_of_gt (blk_lt (g := gb170) (o := .cells #[.string a0_0, .string a0_1, .string a0_2, .slice A0_3 l0_3.length c0_3, .slice A0_4 l0_4.length c0_4] 44 (0, 0)) (by (with_reducible repeat (first | refine blk_drewN ?_ _ | refine blk_drew ?_ | refine blk_alloc ?_ _)); exact BK170.out)) : gb171 ≠ gb170)); clear BK170; clear HB; have BK170 := n0_; have HB := n1_; have BK171 := n2_; have GW171 := n3_; have GE171 := n4_; have NB170_171 := n5_; have NB171_170 := n6_; clear n0_ n1_ n2_ n3_ n4_ n5_ n6_; clear hb hbox hg) | ((with_reducible refine gate_callee (f := 29) rfl ?_); refine goesL_ (some 21) rfl rfl Tryz.func29 (by kernel_rfl) rfl #[.int .u64 a3] rfl (by (try simp only [List.map_toArray, List.map_cons, List.map_nil]); first | done | rfl | (simp only [List.length_drop, List.length_take]; rfl)) ?_; (with_reducible refine (clock_Show.calls a3 t172 t173 _ A5.out).mono ?_); rintro e w109 ⟨rfl, hb⟩; refine ⟨_, rfl, ?_⟩; have n0_ := Aside0.mk (blk_below (g := gb170) (o := .cells #[.string a0_0, .string a0_1, .string a0_2, .slice A0_3 l0_3.length c0_3, .slice A0_4 l0_4.length c0_4] 44 (0, 0)) (by (with_reducible repeat (first | refine blk_drewN ?_ _ | refine blk_drew ?_ | refine blk_alloc ?_ _)); exact BK170.out) hb); have n1_ := Aside0.mk (blk_below (g := gb171) (o := .cells #[.string (⟨#[]⟩ : ByteArray), .string (⟨#[]⟩ : ByteArray), .string (⟨#[]⟩ : ByteArray), .slice none 0 0, .slice none 0 0] 44 (0, 0)) (by (with_reducible repeat (first | refine blk_drewN ?_ _ | refine blk_drew ?_ | refine blk_alloc ?_ _)); exact BK171.out) hb); have n2_ := Aside0.mk (below_step hb6_ hb); clear BK170; clear BK171; clear HB; have BK170 := n0_; have BK171 := n1_; have HB := n2_; clear n0_ n1_ n2_; (try clear hb); (try clear hb2); (try clear hk); (try clear hi); have hnb110 := NB171_170.out; have hnc110 := NB170_171.out; have hcz111_0 : w109.cell? ⟨gb171, 0, none⟩ = some (.string (⟨#[]⟩ : ByteArray)) := (blk_cell BK171.out 0).trans rfl; have hcz111_1 : w109.cell? ⟨gb171, 1, none⟩ = some (.string (⟨#[]⟩ : ByteArray)) := (blk_cell BK171.out 1).trans rfl; have hcz111_2 : w109.cell? ⟨gb171, 2, none⟩ = some (.string (⟨#[]⟩ : ByteArray)) := (blk_cell BK171.out 2).trans rfl; have hcz111_3 : w109.cell? ⟨gb171, 3, none⟩ = some (.slice none 0 0) := (blk_cell BK171.out 3).trans rfl; have hcz111_4 : w109.cell? ⟨gb171, 4, none⟩ = some (.slice none 0 0) := (blk_cell BK171.out 4).trans rfl; have hfz111_0 := blk_frozen BK171.out 0; have hfz111_1 := blk_frozen BK171.out 1; have hfz111_2 := blk_frozen BK171.out 2; have hfz111_3 := blk_frozen BK171.out 3; have hfz111_4 := blk_frozen BK171.out 4))
  refine bodyPost_ret (results_ct rfl _ _ gb171 44 #[.string (⟨#[]⟩ : ByteArray), .string (⟨#[]⟩ : ByteArray), .string (⟨#[]⟩ : ByteArray), .slice none 0 0, .slice none 0 0] (0, 0) _ rfl (by (with_reducible repeat (first | refine blk_drewN ?_ _ | refine blk_drew ?_ | refine blk_alloc ?_ _)); refine blk_put (cs := #[.string (⟨#[]⟩ : ByteArray), .string (⟨#[]⟩ : ByteArray), .string (⟨#[]⟩ : ByteArray), .slice none 0 0, .slice none 0 0]) ?_ 4 _ rfl; (with_reducible repeat (first | refine blk_drewN ?_ _ | refine blk_drew ?_ | refine blk_alloc ?_ _)); refine blk_put (cs := #[.string (⟨#[]⟩ : ByteArray), .string (⟨#[]⟩ : ByteArray), .string (⟨#[]⟩ : ByteArray), .slice none 0 0, .slice none 0 0]) ?_ 3 _ rfl; (with_reducible repeat (first | refine blk_drewN ?_ _ | refine blk_drew ?_ | refine blk_alloc ?_ _)); refine blk_put (cs := #[.string (⟨#[]⟩ : ByteArray), .string (⟨#[]⟩ : ByteArray), .string (⟨#[]⟩ : ByteArray), .slice none 0 0, .slice none 0 0]) ?_ 2 _ rfl; (with_reducible repeat (first | refine blk_drewN ?_ _ | refine blk_drew ?_ | refine blk_alloc ?_ _)); refine blk_put (cs := #[.string (⟨#[]⟩ : ByteArray), .string (⟨#[]⟩ : ByteArray), .string (⟨#[]⟩ : ByteArray), .slice none 0 0, .slice none 0 0]) ?_ 1 _ rfl; (with_reducible repeat (first | refine blk_drewN ?_ _ | refine blk_drew ?_ | refine blk_alloc ?_ _)); refine blk_put (cs := #[.string (⟨#[]⟩ : ByteArray), .string (⟨#[]⟩ : ByteArray), .string (⟨#[]⟩ : ByteArray), .slice none 0 0, .slice none 0 0]) ?_ 0 _ rfl; (with_reducible repeat (first | refine blk_drewN ?_ _ | refine blk_drew ?_ | refine blk_alloc ?_ _)); exact BK171.out) Tryz.underlying44 rfl (by kernel_rfl)) rfl ?_
  exact ⟨_, _, by first | rfl | (simp [errW_none, errW_some] <;> rfl) | (simp [*, errW_none, errW_some] <;> rfl), by first | exact Kd.R_nil _ _ _ _ _ | exact Kd.N_nil _ _ _ _ _ | exact Kd.V_nil _ _ _ _ _ | exact Kd.Q_nil _ _ _ _ _ | exact Kd.S_nil _ _ _ _ _, by first | exact Kd.R_nil _ _ _ _ _ | exact Kd.N_nil _ _ _ _ _ | exact Kd.V_nil _ _ _ _ _ | exact Kd.Q_nil _ _ _ _ _ | exact Kd.S_nil _ _ _ _ _, hb6_⟩
 rw [if_pos c6] at H
 have c6b0 : (t173 == 0) = true := beq_iff_eq.mpr c6
 have c6b1 : (t173 != 0) = false := bne_eq_false_iff_eq.mpr c6
 clear c6
 replace H := Option.bind_eq_some_iff.mp H
 obtain ⟨⟨t174, t175⟩, A70, H⟩ := H
 replace H : ((request_Get.f a0_0 a0_1 a0_2 l0_3 l0_4 (⟨#[120, 45, 97, 109, 122, 45, 100, 97, 116, 101]⟩ : ByteArray)).bind fun bt176 => (if t175 = true then (sigv4_Attach.j0 k a1 a2 a3 t172 true a0_0 a0_1 a0_2 l0_3 l0_4) else (if bt176.2 = true then (sigv4_Attach.j0 k a1 a2 a3 t172 true a0_0 a0_1 a0_2 l0_3 l0_4) else (sigv4_Attach.j0 k a1 a2 a3 t172 (decide ((wrap64 ((l0_3.length : Int) + 2)) > 24)) a0_0 a0_1 a0_2 l0_3 l0_4)))) = some (r1, r2, r3, r4, r5, r6) := H
 have A7 := Aside0.mk A70
 clear A70
 replace H := Option.bind_eq_some_iff.mp H
 obtain ⟨⟨t176, t177⟩, A80, H⟩ := H
 replace H : (if t175 = true then (sigv4_Attach.j0 k a1 a2 a3 t172 true a0_0 a0_1 a0_2 l0_3 l0_4) else (if t177 = true then (sigv4_Attach.j0 k a1 a2 a3 t172 true a0_0 a0_1 a0_2 l0_3 l0_4) else (sigv4_Attach.j0 k a1 a2 a3 t172 (decide ((wrap64 ((l0_3.length : Int) + 2)) > 24)) a0_0 a0_1 a0_2 l0_3 l0_4))) = some (r1, r2, r3, r4, r5, r6) := H
 have A8 := Aside0.mk A80
 clear A80
 have HC9 := Aside0.mk H
 clear H
 go_enter Tryz.func13, Tryz.ntmps13
 go_upto_region 6 with (first | ((with_reducible refine gate_dst (N := 4) rfl ?_); (try (refine gate_guard (by rfl) ?_; dsimp only)); refine box_event ?hg (N := 4) ?hd (cs := #[.string a0_0, .string a0_1, .string a0_2, .slice A0_3 l0_3.length c0_3, .slice A0_4 l0_4.length c0_4]) (t := 44) ?hr ?_; (case hd => rfl); (case hg => rfl); (case hr => first | (go_simp; done) | (go_simp; rfl)); intro gb170 hg w10 hbox hb; have n0_ := Aside0.mk (below_step hb0_ hb); have n1_ := Aside0.mk (hbox); have n2_ := Aside0.mk ((by rw [hg]; exact (below_size hb0_) : w.heap.size ≤ gb170)); have n3_ := Aside0.mk ((by rw [hg]; exact (below_size hb0_) : w.heap.size ≤ gb170)); clear HB; have HB := n0_; have BK170 := n1_; have GW170 := n2_; have GE170 := n3_; clear n0_ n1_ n2_ n3_; clear hb hbox hg) | ((with_reducible refine gate_dst (N := 8) rfl ?_); (try (refine gate_guard (by rfl) ?_; dsimp only)); refine box_event ?hg (N := 8) ?hd (cs := #[.string (⟨#[]⟩ : ByteArray), .string (⟨#[]⟩ : ByteArray), .string (⟨#[]⟩ : ByteArray), .slice none 0 0, .slice none 0 0]) (t := 44) ?hr ?_; (case hd => rfl); (case hg => rfl); (case hr => first | (go_simp; done) | (go_simp; rfl)); intro gb171 hg w11 hbox hb; have n0_ := Aside0.mk (blk_below (g := gb170) (o := .cells #[.string a0_0, .string a0_1, .string a0_2, .slice A0_3 l0_3.length c0_3, .slice A0_4 l0_4.length c0_4] 44 (0, 0)) (by (with_reducible repeat (first | refine blk_drewN ?_ _ | refine blk_drew ?_ | refine blk_alloc ?_ _)); exact BK170.out) hb); have n1_ := Aside0.mk (below_step hb10_ hb); have n2_ := Aside0.mk (hbox); have n3_ := Aside0.mk ((by rw [hg]; exact (below_size hb10_) : w.heap.size ≤ gb171)); have n4_ := Aside0.mk ((by rw [hg]; exact (below_size hb10_) : w.heap.size ≤ gb171)); have n5_ := Aside0.mk ((by rw [hg]; exact Nat.ne_of_lt (blk_lt (g := gb170) (o := .cells #[.string a0_0, .string a0_1, .string a0_2, .slice A0_3 l0_3.length c0_3, .slice A0_4 l0_4.length c0_4] 44 (0, 0)) (by (with_reducible repeat (first | refine blk_drewN ?_ _ | refine blk_drew ?_ | refine blk_alloc ?_ _)); exact BK170.out)) : gb170 ≠ gb171)); have n6_ := Aside0.mk ((by rw [hg]; exact Nat.ne_of_gt (blk_lt (g := gb170) (o := .cells #[.string a0_0, .string a0_1, .string a0_2, .slice A0_3 l0_3.length c0_3, .slice A0_4 l0_4.length c0_4] 44 (0, 0)) (by (with_reducible repeat (first | refine blk_drewN ?_ _ | refine blk_drew ?_ | refine blk_alloc ?_ _)); exact BK170.out)) : gb171 ≠ gb170)); clear BK170; clear HB; have BK170 := n0_; have HB := n1_; have BK171 := n2_; have GW171 := n3_; have GE171 := n4_; have NB170_171 := n5_; have NB171_170 := n6_; clear n0_ n1_ n2_ n3_ n4_ n5_ n6_; clear hb hbox hg) | ((with_reducible refine gate_callee (f := 29) rfl ?_); refine goesL_ (some 21) rfl rfl Tryz.func29 (by kernel_rfl) rfl #[.int .u64 a3] rfl (by (try simp only [List.map_toArray, List.map_cons, List.map_nil]); first | done | rfl | (simp only [List.length_drop, List.length_take]; rfl)) ?_; (with_reducible refine (clock_Show.calls a3 t172 t173 _ A5.out).mono ?_); rintro e w12 ⟨rfl, hb⟩; refine ⟨_, rfl, ?_⟩; have n0_ := Aside0.mk (blk_below (g := gb170) (o := .cells #[.string a0_0, .string a0_1, .string a0_2, .slice A0_3 l0_3.length c0_3, .slice A0_4 l0_4.length c0_4] 44 (0, 0)) (by (with_reducible repeat (first | refine blk_drewN ?_ _ | refine blk_drew ?_ | refine blk_alloc ?_ _)); exact BK170.out) hb); have n1_ := Aside0.mk (blk_below (g := gb171) (o := .cells #[.string (⟨#[]⟩ : ByteArray), .string (⟨#[]⟩ : ByteArray), .string (⟨#[]⟩ : ByteArray), .slice none 0 0, .slice none 0 0] 44 (0, 0)) (by (with_reducible repeat (first | refine blk_drewN ?_ _ | refine blk_drew ?_ | refine blk_alloc ?_ _)); exact BK171.out) hb); have n2_ := Aside0.mk (below_step hb6_ hb); clear BK170; clear BK171; clear HB; have BK170 := n0_; have BK171 := n1_; have HB := n2_; clear n0_ n1_ n2_; (try clear hb); (try clear hb2); (try clear hk); (try clear hi); have hnb13 := NB170_171.out; have hnc13 := NB171_170.out; have hcz14_0 : w12.cell? ⟨gb170, 0, none⟩ = some (.string a0_0) := (blk_cell BK170.out 0).trans rfl; have hcz14_1 : w12.cell? ⟨gb170, 1, none⟩ = some (.string a0_1) := (blk_cell BK170.out 1).trans rfl; have hcz14_2 : w12.cell? ⟨gb170, 2, none⟩ = some (.string a0_2) := (blk_cell BK170.out 2).trans rfl; have hcz14_3 : w12.cell? ⟨gb170, 3, none⟩ = some (.slice A0_3 l0_3.length c0_3) := (blk_cell BK170.out 3).trans rfl; have hcz14_4 : w12.cell? ⟨gb170, 4, none⟩ = some (.slice A0_4 l0_4.length c0_4) := (blk_cell BK170.out 4).trans rfl; have hfz14_0 := blk_frozen BK170.out 0; have hfz14_1 := blk_frozen BK170.out 1; have hfz14_2 := blk_frozen BK170.out 2; have hfz14_3 := blk_frozen BK170.out 3; have hfz14_4 := blk_frozen BK170.out 4) | ((with_reducible refine gate_callee (f := 30) rfl ?_); refine goesL_ (some 30) rfl rfl Tryz.func30 (by kernel_rfl) rfl #[.agg #[.string a0_0, .string a0_1, .string a0_2, .slice A0_3 l0_3.length c0_3, .slice A0_4 l0_4.length c0_4], .string (⟨#[97, 117, 116, 104, 111, 114, 105, 122, 97, 116, 105, 111, 110]⟩ : ByteArray)] rfl (by (try simp only [List.map_toArray, List.map_cons, List.map_nil]); first | done | rfl | (simp only [List.length_drop, List.length_take]; rfl)) ?_; (with_reducible refine (request_Get.calls a0_0 a0_1 a0_2 _ _ l0_3 _ _ l0_4 (⟨#[97, 117, 116, 104, 111, 114, 105, 122, 97, 116, 105, 111, 110]⟩ : ByteArray) t174 t175 _ ?side1 ?side2 ?side3 ?side4 A7.out).mono ?_); (case side1 => repeat (first | exact (Kd.C_below HR0_3.out HB.out) | (with_reducible refine Kd.C_alloc ?_ _) | (with_reducible refine Kd.C_drewN ?_ _) | (with_reducible refine Kd.C_drew ?_))); (case side2 => exact HC0_3.out); (case side3 => repeat (first | exact (Kd.C_below HR0_4.out HB.out) | (with_reducible refine Kd.C_alloc ?_ _) | (with_reducible refine Kd.C_drewN ?_ _) | (with_reducible refine Kd.C_drew ?_))); (case side4 => exact HC0_4.out); rintro e w15 ⟨rfl, hb⟩; refine ⟨_, rfl, ?_⟩; have n0_ := Aside0.mk (blk_below (g := gb170) (o := .cells #[.string a0_0, .string a0_1, .string a0_2, .slice A0_3 l0_3.length c0_3, .slice A0_4 l0_4.length c0_4] 44 (0, 0)) (by (with_reducible repeat (first | refine blk_drewN ?_ _ | refine blk_drew ?_ | refine blk_alloc ?_ _)); exact BK170.out) hb); have n1_ := Aside0.mk (blk_below (g := gb171) (o := .cells #[.string (⟨#[]⟩ : ByteArray), .string (⟨#[]⟩ : ByteArray), .string (⟨#[]⟩ : ByteArray), .slice none 0 0, .slice none 0 0] 44 (0, 0)) (by (with_reducible repeat (first | refine blk_drewN ?_ _ | refine blk_drew ?_ | refine blk_alloc ?_ _)); exact BK171.out) hb); have n2_ := Aside0.mk (below_step hb6_ hb); clear BK170; clear BK171; clear HB; have BK170 := n0_; have BK171 := n1_; have HB := n2_; clear n0_ n1_ n2_; (try clear hb); (try clear hb2); (try clear hk); (try clear hi); have hcz16_0 : w15.cell? ⟨gb170, 0, none⟩ = some (.string a0_0) := (blk_cell BK170.out 0).trans rfl; have hcz16_1 : w15.cell? ⟨gb170, 1, none⟩ = some (.string a0_1) := (blk_cell BK170.out 1).trans rfl; have hcz16_2 : w15.cell? ⟨gb170, 2, none⟩ = some (.string a0_2) := (blk_cell BK170.out 2).trans rfl; have hcz16_3 : w15.cell? ⟨gb170, 3, none⟩ = some (.slice A0_3 l0_3.length c0_3) := (blk_cell BK170.out 3).trans rfl; have hcz16_4 : w15.cell? ⟨gb170, 4, none⟩ = some (.slice A0_4 l0_4.length c0_4) := (blk_cell BK170.out 4).trans rfl; have hfz16_0 := blk_frozen BK170.out 0; have hfz16_1 := blk_frozen BK170.out 1; have hfz16_2 := blk_frozen BK170.out 2; have hfz16_3 := blk_frozen BK170.out 3; have hfz16_4 := blk_frozen BK170.out 4) | ((with_reducible refine gate_callee (f := 30) rfl ?_); refine goesL_ (some 35) rfl rfl Tryz.func30 (by kernel_rfl) rfl #[.agg #[.string a0_0, .string a0_1, .string a0_2, .slice A0_3 l0_3.length c0_3, .slice A0_4 l0_4.length c0_4], .string (⟨#[120, 45, 97, 109, 122, 45, 100, 97, 116, 101]⟩ : ByteArray)] rfl (by (try simp only [List.map_toArray, List.map_cons, List.map_nil]); first | done | rfl | (simp only [List.length_drop, List.length_take]; rfl)) ?_; (with_reducible refine (request_Get.calls a0_0 a0_1 a0_2 _ _ l0_3 _ _ l0_4 (⟨#[120, 45, 97, 109, 122, 45, 100, 97, 116, 101]⟩ : ByteArray) t176 t177 _ ?side1 ?side2 ?side3 ?side4 A8.out).mono ?_); (case side1 => repeat (first | exact (Kd.C_below HR0_3.out HB.out) | (with_reducible refine Kd.C_alloc ?_ _) | (with_reducible refine Kd.C_drewN ?_ _) | (with_reducible refine Kd.C_drew ?_))); (case side2 => exact HC0_3.out); (case side3 => repeat (first | exact (Kd.C_below HR0_4.out HB.out) | (with_reducible refine Kd.C_alloc ?_ _) | (with_reducible refine Kd.C_drewN ?_ _) | (with_reducible refine Kd.C_drew ?_))); (case side4 => exact HC0_4.out); rintro e w17 ⟨rfl, hb⟩; refine ⟨_, rfl, ?_⟩; have n0_ := Aside0.mk (blk_below (g := gb170) (o := .cells #[.string a0_0, .string a0_1, .string a0_2, .slice A0_3 l0_3.length c0_3, .slice A0_4 l0_4.length c0_4] 44 (0, 0)) (by (with_reducible repeat (first | refine blk_drewN ?_ _ | refine blk_drew ?_ | refine blk_alloc ?_ _)); exact BK170.out) hb); have n1_ := Aside0.mk (blk_below (g := gb171) (o := .cells #[.string (⟨#[]⟩ : ByteArray), .string (⟨#[]⟩ : ByteArray), .string (⟨#[]⟩ : ByteArray), .slice none 0 0, .slice none 0 0] 44 (0, 0)) (by (with_reducible repeat (first | refine blk_drewN ?_ _ | refine blk_drew ?_ | refine blk_alloc ?_ _)); exact BK171.out) hb); have n2_ := Aside0.mk (below_step hb6_ hb); clear BK170; clear BK171; clear HB; have BK170 := n0_; have BK171 := n1_; have HB := n2_; clear n0_ n1_ n2_; (try clear hb); (try clear hb2); (try clear hk); (try clear hi)))
 (try simp only [Act.put, List.setIfInBounds_toArray, List.set_cons_zero, List.set_cons_succ])
 go_cut [48] (fun v48 wc => ∃ (kq : Nat) (x48_8 : Bool), v48 = .bool x48_8 ∧ Aside0 (sigv4_Attach.j0 kq a1 a2 a3 t172 x48_8 a0_0 a0_1 a0_2 l0_3 l0_4 = some (r1, r2, r3, r4, r5, r6)) ∧ Aside0 (kq ≤ k) ∧ Aside0 (wc.heap[gb170]? = some (.cells #[.string a0_0, .string a0_1, .string a0_2, (.slice A0_3 l0_3.length c0_3), (.slice A0_4 l0_4.length c0_4)] 44 (0, 0))) ∧ Aside0 (wc.heap[gb171]? = some (.cells #[.string (⟨#[]⟩ : ByteArray), .string (⟨#[]⟩ : ByteArray), .string (⟨#[]⟩ : ByteArray), (.slice none 0 0), (.slice none 0 0)] 44 (0, 0))) ∧ Aside0 (Below w.heap.size w wc))
 case first =>
  have H := HC9.out
  clear HC9
  by_cases c18 : t175 = true
  ·subst c18
   have H1 : (sigv4_Attach.j0 k a1 a2 a3 t172 true a0_0 a0_1 a0_2 l0_3 l0_4) = some (r1, r2, r3, r4, r5, r6) := by rw [if_pos rfl] at H; exact H
   clear H
   have H := H1
   clear H1
   have H' := Aside0.mk H
   clear H
   go_wp2
   go_meet
   case rel => exact ⟨_, (true), (by first | rfl | (simp; done) | (simp [*]; done)), H', ⟨by first | omega | exact Nat.le_refl _⟩, ⟨by (with_reducible repeat (first | refine blk_drewN ?_ _ | refine blk_drew ?_ | refine blk_alloc ?_ _)); exact BK170.out⟩, ⟨by (with_reducible repeat (first | refine blk_drewN ?_ _ | refine blk_drew ?_ | refine blk_alloc ?_ _)); exact BK171.out⟩, ⟨hb6_⟩⟩
  replace c18 := Bool.eq_false_iff.mpr c18
  subst c18
  have H1 : (if t177 = true then (sigv4_Attach.j0 k a1 a2 a3 t172 true a0_0 a0_1 a0_2 l0_3 l0_4) else (sigv4_Attach.j0 k a1 a2 a3 t172 (decide ((wrap64 ((l0_3.length : Int) + 2)) > 24)) a0_0 a0_1 a0_2 l0_3 l0_4)) = some (r1, r2, r3, r4, r5, r6) := by rw [if_neg (show ¬ (false = true) by decide)] at H; exact H
  clear H
  have H := H1
  clear H1
  by_cases c19 : t177 = true
  ·subst c19
   have H1 : (sigv4_Attach.j0 k a1 a2 a3 t172 true a0_0 a0_1 a0_2 l0_3 l0_4) = some (r1, r2, r3, r4, r5, r6) := by rw [if_pos rfl] at H; exact H
   clear H
   have H := H1
   clear H1
   have H' := Aside0.mk H
   clear H
   go_wp2
   go_meet
   case rel => exact ⟨_, (true), (by first | rfl | (simp; done) | (simp [*]; done)), H', ⟨by first | omega | exact Nat.le_refl _⟩, ⟨by (with_reducible repeat (first | refine blk_drewN ?_ _ | refine blk_drew ?_ | refine blk_alloc ?_ _)); exact BK170.out⟩, ⟨by (with_reducible repeat (first | refine blk_drewN ?_ _ | refine blk_drew ?_ | refine blk_alloc ?_ _)); exact BK171.out⟩, ⟨hb6_⟩⟩
  replace c19 := Bool.eq_false_iff.mpr c19
  subst c19
  have H1 : (sigv4_Attach.j0 k a1 a2 a3 t172 (decide ((wrap64 ((l0_3.length : Int) + 2)) > 24)) a0_0 a0_1 a0_2 l0_3 l0_4) = some (r1, r2, r3, r4, r5, r6) := by rw [if_neg (show ¬ (false = true) by decide)] at H; exact H
  clear H
  have H := H1
  clear H1
  have H' := Aside0.mk H
  clear H
  have hnb20 := NB170_171.out
  have hnc20 := NB171_170.out
  have hcz21_0 : w17.cell? ⟨gb170, 0, none⟩ = some (.string a0_0) := (blk_cell BK170.out 0).trans rfl
  have hcz21_1 : w17.cell? ⟨gb170, 1, none⟩ = some (.string a0_1) := (blk_cell BK170.out 1).trans rfl
  have hcz21_2 : w17.cell? ⟨gb170, 2, none⟩ = some (.string a0_2) := (blk_cell BK170.out 2).trans rfl
  have hcz21_3 : w17.cell? ⟨gb170, 3, none⟩ = some (.slice A0_3 l0_3.length c0_3) := (blk_cell BK170.out 3).trans rfl
  have hcz21_4 : w17.cell? ⟨gb170, 4, none⟩ = some (.slice A0_4 l0_4.length c0_4) := (blk_cell BK170.out 4).trans rfl
  have hfz21_0 := blk_frozen BK170.out 0
  have hfz21_1 := blk_frozen BK170.out 1
  have hfz21_2 := blk_frozen BK170.out 2
  have hfz21_3 := blk_frozen BK170.out 3
  have hfz21_4 := blk_frozen BK170.out 4
  go_wp2
  go_meet
  case rel => exact ⟨_, (decide ((wrap64 ((l0_3.length : Int) + 2)) > 24)), (by first | rfl | (simp; done) | (simp [*]; done)), H', ⟨by first | omega | exact Nat.le_refl _⟩, ⟨by (with_reducible repeat (first | refine blk_drewN ?_ _ | refine blk_drew ?_ | refine blk_alloc ?_ _)); exact BK170.out⟩, ⟨by (with_reducible repeat (first | refine blk_drewN ?_ _ | refine blk_drew ?_ | refine blk_alloc ?_ _)); exact BK171.out⟩, ⟨hb6_⟩⟩
 case rest =>
  clear HC9
  try clear c1
  try clear c2
  try clear p2
  try clear c3
  try clear c6
  try clear c6b0
  try clear c6b1
  try clear p6
  try clear c13
  try clear c18
  try clear c19
  try clear c20
  try clear hcz14_0
  try clear hcz14_1
  try clear hcz14_2
  try clear hcz14_3
  try clear hcz14_4
  try clear hcz16_0
  try clear hcz16_1
  try clear hcz16_2
  try clear hcz16_3
  try clear hcz16_4
  try clear hcz21_0
  try clear hcz21_1
  try clear hcz21_2
  try clear hcz21_3
  try clear hcz21_4
  try clear hfz14_0
  try clear hfz14_1
  try clear hfz14_2
  try clear hfz14_3
  try clear hfz14_4
  try clear hfz16_0
  try clear hfz16_1
  try clear hfz16_2
  try clear hfz16_3
  try clear hfz16_4
  try clear hfz21_0
  try clear hfz21_1
  try clear hfz21_2
  try clear hfz21_3
  try clear hfz21_4
  obtain ⟨kq, x48_8, rfl, HA, HJ8, BK170, BK171, HB⟩ := hcut
  cases kq with
  | zero => exact absurd HA.out (by simp [sigv4_Attach.j0])
  | succ kj8 =>
   have H := HA.out
   clear HA
   simp only [sigv4_Attach.j0] at H
   by_cases c22 : x48_8 = true
   ·subst c22
    have H1 : (some ((⟨#[]⟩ : ByteArray), (⟨#[]⟩ : ByteArray), (⟨#[]⟩ : ByteArray), ([] : List (S55)), ([] : List Int), 11)) = some (r1, r2, r3, r4, r5, r6) := by rw [if_pos rfl] at H; exact H
    clear H
    have H := H1
    clear H1
    simp only [Option.some.injEq, Prod.mk.injEq] at H
    obtain ⟨rfl, rfl, rfl, rfl, rfl, rfl⟩ := H
    have hnb23 := NB171_170.out
    have hnc23 := NB170_171.out
    have hcz24_0 : wc.cell? ⟨gb171, 0, none⟩ = some (.string (⟨#[]⟩ : ByteArray)) := (blk_cell BK171.out 0).trans rfl
    have hcz24_1 : wc.cell? ⟨gb171, 1, none⟩ = some (.string (⟨#[]⟩ : ByteArray)) := (blk_cell BK171.out 1).trans rfl
    have hcz24_2 : wc.cell? ⟨gb171, 2, none⟩ = some (.string (⟨#[]⟩ : ByteArray)) := (blk_cell BK171.out 2).trans rfl
    have hcz24_3 : wc.cell? ⟨gb171, 3, none⟩ = some (.slice none 0 0) := (blk_cell BK171.out 3).trans rfl
    have hcz24_4 : wc.cell? ⟨gb171, 4, none⟩ = some (.slice none 0 0) := (blk_cell BK171.out 4).trans rfl
    have hfz24_0 := blk_frozen BK171.out 0
    have hfz24_1 := blk_frozen BK171.out 1
    have hfz24_2 := blk_frozen BK171.out 2
    have hfz24_3 := blk_frozen BK171.out 3
    have hfz24_4 := blk_frozen BK171.out 4
    go_wp2
    refine bodyPost_ret (results_ct rfl _ _ gb171 44 #[.string (⟨#[]⟩ : ByteArray), .string (⟨#[]⟩ : ByteArray), .string (⟨#[]⟩ : ByteArray), .slice none 0 0, .slice none 0 0] (0, 0) _ rfl (by (with_reducible repeat (first | refine blk_drewN ?_ _ | refine blk_drew ?_ | refine blk_alloc ?_ _)); refine blk_put (cs := #[.string (⟨#[]⟩ : ByteArray), .string (⟨#[]⟩ : ByteArray), .string (⟨#[]⟩ : ByteArray), .slice none 0 0, .slice none 0 0]) ?_ 4 _ rfl; (with_reducible repeat (first | refine blk_drewN ?_ _ | refine blk_drew ?_ | refine blk_alloc ?_ _)); refine blk_put (cs := #[.string (⟨#[]⟩ : ByteArray), .string (⟨#[]⟩ : ByteArray), .string (⟨#[]⟩ : ByteArray), .slice none 0 0, .slice none 0 0]) ?_ 3 _ rfl; (with_reducible repeat (first | refine blk_drewN ?_ _ | refine blk_drew ?_ | refine blk_alloc ?_ _)); refine blk_put (cs := #[.string (⟨#[]⟩ : ByteArray), .string (⟨#[]⟩ : ByteArray), .string (⟨#[]⟩ : ByteArray), .slice none 0 0, .slice none 0 0]) ?_ 2 _ rfl; (with_reducible repeat (first | refine blk_drewN ?_ _ | refine blk_drew ?_ | refine blk_alloc ?_ _)); refine blk_put (cs := #[.string (⟨#[]⟩ : ByteArray), .string (⟨#[]⟩ : ByteArray), .string (⟨#[]⟩ : ByteArray), .slice none 0 0, .slice none 0 0]) ?_ 1 _ rfl; (with_reducible repeat (first | refine blk_drewN ?_ _ | refine blk_drew ?_ | refine blk_alloc ?_ _)); refine blk_put (cs := #[.string (⟨#[]⟩ : ByteArray), .string (⟨#[]⟩ : ByteArray), .string (⟨#[]⟩ : ByteArray), .slice none 0 0, .slice none 0 0]) ?_ 0 _ rfl; (with_reducible repeat (first | refine blk_drewN ?_ _ | refine blk_drew ?_ | refine blk_alloc ?_ _)); exact BK171.out) Tryz.underlying44 rfl (by kernel_rfl)) rfl ?_
    exact ⟨_, _, by first | rfl | (simp [errW_none, errW_some] <;> rfl) | (simp [*, errW_none, errW_some] <;> rfl), by first | exact Kd.R_nil _ _ _ _ _ | exact Kd.N_nil _ _ _ _ _ | exact Kd.V_nil _ _ _ _ _ | exact Kd.Q_nil _ _ _ _ _ | exact Kd.S_nil _ _ _ _ _, by first | exact Kd.R_nil _ _ _ _ _ | exact Kd.N_nil _ _ _ _ _ | exact Kd.V_nil _ _ _ _ _ | exact Kd.Q_nil _ _ _ _ _ | exact Kd.S_nil _ _ _ _ _, hb6_⟩
   replace c22 := Bool.eq_false_iff.mpr c22
   subst c22
   have H1 : ((request_Header_31.f l0_3).bind fun t178 => (if t178.length < 4398046511104 then ((some (t178 ++ [(⟨(⟨#[120, 45, 97, 109, 122, 45, 100, 97, 116, 101]⟩ : ByteArray), t172⟩ : S55)] : List (S55))).bind fun y181 => (if 0 ≤ 8 then (if 8 ≤ (t172.size : Int) then (sigv4_Attach.l0 kj8 a2 a3 y181 (y181.length : Int) 0 a0_0 a0_1 a0_2 y181 l0_4 a1 (t172.extract 0 8) ([] : List ByteArray) (⟨#[]⟩ : ByteArray)) else (none)) else (none))) else (none))) = some (r1, r2, r3, r4, r5, r6) := by rw [if_neg (show ¬ (false = true) by decide)] at H; exact H
   clear H
   have H := H1
   clear H1
   replace H := Option.bind_eq_some_iff.mp H
   obtain ⟨t178, A250, H⟩ := H
   replace H : (if t178.length < 4398046511104 then ((some (t178 ++ [(⟨(⟨#[120, 45, 97, 109, 122, 45, 100, 97, 116, 101]⟩ : ByteArray), t172⟩ : S55)] : List (S55))).bind fun y181 => (if 0 ≤ 8 then (if 8 ≤ (t172.size : Int) then (sigv4_Attach.l0 kj8 a2 a3 y181 (y181.length : Int) 0 a0_0 a0_1 a0_2 y181 l0_4 a1 (t172.extract 0 8) ([] : List ByteArray) (⟨#[]⟩ : ByteArray)) else (none)) else (none))) else (none)) = some (r1, r2, r3, r4, r5, r6) := H
   have A25 := Aside0.mk A250
   clear A250
   by_cases c26 : t178.length < 4398046511104
   rotate_left
   ·rw [if_neg c26] at H
    exact absurd H (by simp)
   rw [if_pos c26] at H
   have LMc26 := Aside0.mk c26
   clear c26
   obtain ⟨y181, hy181⟩ : ∃ y_ : List (S55), y_ = (t178 ++ [(⟨(⟨#[120, 45, 97, 109, 122, 45, 100, 97, 116, 101]⟩ : ByteArray), t172⟩ : S55)]) := ⟨_, rfl⟩
   replace H : (if 0 ≤ 8 then (if 8 ≤ (t172.size : Int) then (sigv4_Attach.l0 kj8 a2 a3 y181 (y181.length : Int) 0 a0_0 a0_1 a0_2 y181 l0_4 a1 (t172.extract 0 8) ([] : List ByteArray) (⟨#[]⟩ : ByteArray)) else (none)) else (none)) = some (r1, r2, r3, r4, r5, r6) := by first | (rw [hy181]; with_reducible exact H) | (have H2_ := (Option.bind_some _ _).symm.trans H; rw [hy181]; with_reducible exact H2_) | (have H2_ := (Option.bind_some _ _).symm.trans H; with_reducible exact H2_) | with_reducible exact H | (rw [hy181]; exact H) | exact H
   have Ny181 := Aside0.mk hy181
   clear hy181
   by_cases c27 : 0 ≤ 8
   rotate_left
   ·rw [if_neg c27] at H
    exact absurd H (by simp)
   rw [if_pos c27] at H
   have c27b0 := eq_true c27
   have c27b1 : decide (0 ≤ 8) = true := decide_eq_true c27
   clear c27
   by_cases c28 : 8 ≤ (t172.size : Int)
   rotate_left
   ·rw [if_neg c28] at H
    exact absurd H (by simp)
   rw [if_pos c28] at H
   have c28b0 := eq_true c28
   have c28b1 : decide (8 ≤ (t172.size : Int)) = true := decide_eq_true c28
   clear c28
   have H' := Aside0.mk H
   clear H
   have hnb29 := NB170_171.out
   have hnc29 := NB171_170.out
   have hcz30_0 : wc.cell? ⟨gb170, 0, none⟩ = some (.string a0_0) := (blk_cell BK170.out 0).trans rfl
   have hcz30_1 : wc.cell? ⟨gb170, 1, none⟩ = some (.string a0_1) := (blk_cell BK170.out 1).trans rfl
   have hcz30_2 : wc.cell? ⟨gb170, 2, none⟩ = some (.string a0_2) := (blk_cell BK170.out 2).trans rfl
   have hcz30_3 : wc.cell? ⟨gb170, 3, none⟩ = some (.slice A0_3 l0_3.length c0_3) := (blk_cell BK170.out 3).trans rfl
   have hcz30_4 : wc.cell? ⟨gb170, 4, none⟩ = some (.slice A0_4 l0_4.length c0_4) := (blk_cell BK170.out 4).trans rfl
   have hfz30_0 := blk_frozen BK170.out 0
   have hfz30_1 := blk_frozen BK170.out 1
   have hfz30_2 := blk_frozen BK170.out 2
   have hfz30_3 := blk_frozen BK170.out 3
   have hfz30_4 := blk_frozen BK170.out 4
   go_wp2_with (first | ((with_reducible refine gate_callee (f := 31) rfl ?_); refine goesL_ (some 52) rfl rfl Tryz.func31 (by kernel_rfl) rfl #[.slice A0_3 l0_3.length c0_3] rfl (by (try simp only [List.map_toArray, List.map_cons, List.map_nil]); first | done | rfl | (simp only [List.length_drop, List.length_take]; rfl)) ?_; (with_reducible refine (request_Header_31.calls _ _ l0_3 t178 _ ?side1 ?side2 A25.out).mono ?_); (case side1 => repeat (first | exact (Kd.C_below HR0_3.out HB.out) | (with_reducible refine Kd.C_alloc ?_ _) | (with_reducible refine Kd.C_drewN ?_ _) | (with_reducible refine Kd.C_drew ?_))); (case side2 => exact HC0_3.out); rintro e w31 ⟨v179, rfl, ho0, hb⟩; refine ⟨_, rfl, ?_⟩; have n0_ := Aside0.mk (Kd.R_lower ho0 (below_size hb6_)); have n1_ := Aside0.mk (blk_below (g := gb170) (o := .cells #[.string a0_0, .string a0_1, .string a0_2, .slice A0_3 l0_3.length c0_3, .slice A0_4 l0_4.length c0_4] 44 (0, 0)) (by (with_reducible repeat (first | refine blk_drewN ?_ _ | refine blk_drew ?_ | refine blk_alloc ?_ _)); exact BK170.out) hb); have n2_ := Aside0.mk (blk_below (g := gb171) (o := .cells #[.string (⟨#[]⟩ : ByteArray), .string (⟨#[]⟩ : ByteArray), .string (⟨#[]⟩ : ByteArray), .slice none 0 0, .slice none 0 0] 44 (0, 0)) (by (with_reducible repeat (first | refine blk_drewN ?_ _ | refine blk_drew ?_ | refine blk_alloc ?_ _)); exact BK171.out) hb); have n3_ := Aside0.mk (below_step hb6_ hb); clear BK170; clear BK171; clear HB; have HO180 := n0_; have BK170 := n1_; have BK171 := n2_; have HB := n3_; clear n0_ n1_ n2_ n3_; (try clear hb); (try clear hb2); (try clear hk); (try clear hi); (try clear ho0)) | ((with_reducible refine gate_builtin (b := .append) (xs := #[.tmp 52, .tmp 55]) rfl ?_); (try (refine gate_guard (by rfl) ?_; dsimp only)); at_builtin; refine Kd.R_append k55 (w0 := w) w.heap.size rfl (.tmp 52) (.tmp 55) 42 55 (.agg #[(.string ⟨#[]⟩), (.string ⟨#[]⟩)]) 32 rfl Tryz.underlying42 info55 rfl (by decide) (by omega) v179 t178 (⟨(⟨#[120, 45, 97, 109, 122, 45, 100, 97, 116, 101]⟩ : ByteArray), t172⟩ : S55) [.string (⟨#[120, 45, 97, 109, 122, 45, 100, 97, 116, 101]⟩ : ByteArray), .string t172] (fun _ => True) (fun _ => False) rfl rfl ?aP (fun _ hk => hk.elim) ?aF ?aO ?aB ?aS ?aL ?_; (case aP => exact k55_mkM _ _ _ (⟨(⟨#[120, 45, 97, 109, 122, 45, 100, 97, 116, 101]⟩ : ByteArray), t172⟩ : S55)); (case aB => exact hb6_); (case aF => exact (fun _ _ => trivial)); (case aO => exact (by (with_reducible repeat (first | apply Kd.R_alloc | apply Kd.R_drewN | apply Kd.R_drew)); exact HO180.out)); (case aS => exact (below_size hb6_)); (case aL => have := LMc26.out; omega); intro v182 w32 ho hb hg hat; rw [← Ny181.out] at ho; have n0_ := Aside0.mk (blk_grown (g := gb170) (o := .cells #[.string a0_0, .string a0_1, .string a0_2, .slice A0_3 l0_3.length c0_3, .slice A0_4 l0_4.length c0_4] 44 (0, 0)) (by (with_reducible repeat (first | refine blk_drewN ?_ _ | refine blk_drew ?_ | refine blk_alloc ?_ _)); exact BK170.out) hg (Kd.R_ne HO180.out BK170.out (by decide))); have n1_ := Aside0.mk (blk_grown (g := gb171) (o := .cells #[.string (⟨#[]⟩ : ByteArray), .string (⟨#[]⟩ : ByteArray), .string (⟨#[]⟩ : ByteArray), .slice none 0 0, .slice none 0 0] 44 (0, 0)) (by (with_reducible repeat (first | refine blk_drewN ?_ _ | refine blk_drew ?_ | refine blk_alloc ?_ _)); exact BK171.out) hg (Kd.R_ne HO180.out BK171.out (by decide))); have n2_ := Aside0.mk (hb); have n3_ := Aside0.mk (ho); clear BK170; clear BK171; clear HB; clear HO180; have BK170 := n0_; have BK171 := n1_; have HB := n2_; have HO183 := n3_; clear n0_ n1_ n2_ n3_; clear ho hb hg hat; obtain ⟨Ao33, co33, eo33⟩ := Kd.R_slice HO183.out; subst eo33; have hcz34_0 : w32.cell? ⟨gb170, 0, none⟩ = some (.string a0_0) := (blk_cell BK170.out 0).trans rfl; have hcz34_1 : w32.cell? ⟨gb170, 1, none⟩ = some (.string a0_1) := (blk_cell BK170.out 1).trans rfl; have hcz34_2 : w32.cell? ⟨gb170, 2, none⟩ = some (.string a0_2) := (blk_cell BK170.out 2).trans rfl; have hcz34_3 : w32.cell? ⟨gb170, 3, none⟩ = some (.slice A0_3 l0_3.length c0_3) := (blk_cell BK170.out 3).trans rfl; have hcz34_4 : w32.cell? ⟨gb170, 4, none⟩ = some (.slice A0_4 l0_4.length c0_4) := (blk_cell BK170.out 4).trans rfl; have hfz34_0 := blk_frozen BK170.out 0; have hfz34_1 := blk_frozen BK170.out 1; have hfz34_2 := blk_frozen BK170.out 2; have hfz34_3 := blk_frozen BK170.out 3; have hfz34_4 := blk_frozen BK170.out 4) | ((with_reducible refine gate_dst (N := 16) rfl ?_); (try (refine gate_guard (by rfl) ?_; dsimp only)); refine box_event ?hg (N := 16) ?hd (cs := #[.string (⟨#[]⟩ : ByteArray), .string (⟨#[]⟩ : ByteArray), .slice none 0 0, .string (⟨#[]⟩ : ByteArray)]) (t := 26) ?hr ?_; (case hd => rfl); (case hg => rfl); (case hr => first | (go_simp; done) | (go_simp; rfl)); intro gb184 hg w35 hbox hb; have n0_ := Aside0.mk (Kd.R_below (by (with_reducible repeat (first | apply Kd.R_alloc | apply Kd.R_drewN | apply Kd.R_drew)); exact (Kd.R_mono (Kd.R_far (p := ⟨gb170, 3, none⟩) (Kd.R_types HO183.out BK170.out (by decide)) (fun _ hk => hk.2) (.slice Ao33 y181.length co33)) (fun _ h_ => h_.1))) hb); have n1_ := Aside0.mk (blk_below (g := gb170) (o := .cells #[.string a0_0, .string a0_1, .string a0_2, .slice Ao33 y181.length co33, .slice A0_4 l0_4.length c0_4] 44 (0, 0)) (by (with_reducible repeat (first | refine blk_drewN ?_ _ | refine blk_drew ?_ | refine blk_alloc ?_ _)); refine blk_put (cs := #[.string a0_0, .string a0_1, .string a0_2, .slice A0_3 l0_3.length c0_3, .slice A0_4 l0_4.length c0_4]) ?_ 3 _ rfl; (with_reducible repeat (first | refine blk_drewN ?_ _ | refine blk_drew ?_ | refine blk_alloc ?_ _)); exact BK170.out) hb); have n2_ := Aside0.mk (blk_below (g := gb171) (o := .cells #[.string (⟨#[]⟩ : ByteArray), .string (⟨#[]⟩ : ByteArray), .string (⟨#[]⟩ : ByteArray), .slice none 0 0, .slice none 0 0] 44 (0, 0)) (by (with_reducible repeat (first | refine blk_drewN ?_ _ | refine blk_drew ?_ | refine blk_alloc ?_ _)); refine blk_far ?_ NB171_170.out _; (with_reducible repeat (first | refine blk_drewN ?_ _ | refine blk_drew ?_ | refine blk_alloc ?_ _)); exact BK171.out) hb); have n3_ := Aside0.mk (below_step hb6_ hb); have n4_ := Aside0.mk (hbox); have n5_ := Aside0.mk ((by rw [hg]; exact (below_size hb6_) : w.heap.size ≤ gb184)); have n6_ := Aside0.mk ((by rw [hg]; exact (below_size hb6_) : w.heap.size ≤ gb184)); have n7_ := Aside0.mk ((by rw [hg]; exact Nat.ne_of_lt (blk_lt (g := gb170) (o := .cells #[.string a0_0, .string a0_1, .string a0_2, .slice Ao33 y181.length co33, .slice A0_4 l0_4.length c0_4] 44 (0, 0)) (by (with_reducible repeat (first | refine blk_drewN ?_ _ | refine blk_drew ?_ | refine blk_alloc ?_ _)); refine blk_put (cs := #[.string a0_0, .string a0_1, .string a0_2, .slice A0_3 l0_3.length c0_3, .slice A0_4 l0_4.length c0_4]) ?_ 3 _ rfl; (with_reducible repeat (first | refine blk_drewN ?_ _ | refine blk_drew ?_ | refine blk_alloc ?_ _)); exact BK170.out)) : gb170 ≠ gb184)); have n8_ := Aside0.mk ((by rw [hg]; exact Nat.ne_of_gt (blk_lt (g := gb170) (o := .cells #[.string a0_0, .string a0_1, .string a0_2, .slice Ao33 y181.length co33, .slice A0_4 l0_4.length c0_4] 44 (0, 0)) (by (with_reducible repeat (first | refine blk_drewN ?_ _ | refine blk_drew ?_ | refine blk_alloc ?_ _)); refine blk_put (cs := #[.string a0_0, .string a0_1, .string a0_2, .slice A0_3 l0_3.length c0_3, .slice A0_4 l0_4.length c0_4]) ?_ 3 _ rfl; (with_reducible repeat (first | refine blk_drewN ?_ _ | refine blk_drew ?_ | refine blk_alloc ?_ _)); exact BK170.out)) : gb184 ≠ gb170)); have n9_ := Aside0.mk ((by rw [hg]; exact Nat.ne_of_lt (blk_lt (g := gb171) (o := .cells #[.string (⟨#[]⟩ : ByteArray), .string (⟨#[]⟩ : ByteArray), .string (⟨#[]⟩ : ByteArray), .slice none 0 0, .slice none 0 0] 44 (0, 0)) (by (with_reducible repeat (first | refine blk_drewN ?_ _ | refine blk_drew ?_ | refine blk_alloc ?_ _)); refine blk_far ?_ NB171_170.out _; (with_reducible repeat (first | refine blk_drewN ?_ _ | refine blk_drew ?_ | refine blk_alloc ?_ _)); exact BK171.out)) : gb171 ≠ gb184)); have n10_ := Aside0.mk ((by rw [hg]; exact Nat.ne_of_gt (blk_lt (g := gb171) (o := .cells #[.string (⟨#[]⟩ : ByteArray), .string (⟨#[]⟩ : ByteArray), .string (⟨#[]⟩ : ByteArray), .slice none 0 0, .slice none 0 0] 44 (0, 0)) (by (with_reducible repeat (first | refine blk_drewN ?_ _ | refine blk_drew ?_ | refine blk_alloc ?_ _)); refine blk_far ?_ NB171_170.out _; (with_reducible repeat (first | refine blk_drewN ?_ _ | refine blk_drew ?_ | refine blk_alloc ?_ _)); exact BK171.out)) : gb184 ≠ gb171)); clear HO183; clear BK170; clear BK171; clear HB; have HO183 := n0_; have BK170 := n1_; have BK171 := n2_; have HB := n3_; have BK184 := n4_; have GW184 := n5_; have GE184 := n6_; have NB170_184 := n7_; have NB184_170 := n8_; have NB171_184 := n9_; have NB184_171 := n10_; clear n0_ n1_ n2_ n3_ n4_ n5_ n6_ n7_ n8_ n9_ n10_; clear hb hbox hg; have hnb36 := NB184_170.out; have hnc36 := NB170_184.out; have hnb37 := NB184_171.out; have hnc37 := NB171_184.out; have hcz38_0 : w35.cell? ⟨gb184, 0, none⟩ = some (.string (⟨#[]⟩ : ByteArray)) := (blk_cell BK184.out 0).trans rfl; have hcz38_1 : w35.cell? ⟨gb184, 1, none⟩ = some (.string (⟨#[]⟩ : ByteArray)) := (blk_cell BK184.out 1).trans rfl; have hcz38_2 : w35.cell? ⟨gb184, 2, none⟩ = some (.slice none 0 0) := (blk_cell BK184.out 2).trans rfl; have hcz38_3 : w35.cell? ⟨gb184, 3, none⟩ = some (.string (⟨#[]⟩ : ByteArray)) := (blk_cell BK184.out 3).trans rfl; have hfz38_0 := blk_frozen BK184.out 0; have hfz38_1 := blk_frozen BK184.out 1; have hfz38_2 := blk_frozen BK184.out 2; have hfz38_3 := blk_frozen BK184.out 3; have hcz39_0 : w35.cell? ⟨gb170, 0, none⟩ = some (.string a0_0) := (blk_cell BK170.out 0).trans rfl; have hcz39_1 : w35.cell? ⟨gb170, 1, none⟩ = some (.string a0_1) := (blk_cell BK170.out 1).trans rfl; have hcz39_2 : w35.cell? ⟨gb170, 2, none⟩ = some (.string a0_2) := (blk_cell BK170.out 2).trans rfl; have hcz39_3 : w35.cell? ⟨gb170, 3, none⟩ = some (.slice Ao33 y181.length co33) := (blk_cell BK170.out 3).trans rfl; have hcz39_4 : w35.cell? ⟨gb170, 4, none⟩ = some (.slice A0_4 l0_4.length c0_4) := (blk_cell BK170.out 4).trans rfl; have hfz39_0 := blk_frozen BK170.out 0; have hfz39_1 := blk_frozen BK170.out 1; have hfz39_2 := blk_frozen BK170.out 2; have hfz39_3 := blk_frozen BK170.out 3; have hfz39_4 := blk_frozen BK170.out 4))
   go_loopg [65] kj8 (fun kq v65 w' => ∃ (x65_2 : Int) (x185002_2 : List ByteArray) (u185002 : Value), v65 = .int .i64 x65_2 ∧ Aside0 (sigv4_Attach.l0 kq a2 a3 y181 (y181.length : Int) x65_2 a0_0 a0_1 a0_2 y181 l0_4 a1 (t172.extract 0 8) x185002_2 (⟨#[]⟩ : ByteArray) = some (r1, r2, r3, r4, r5, r6)) ∧ Aside0 (kq ≤ kj8) ∧ Aside0 (Kd.R k55 55 w' w.heap.size (fun _ => True) (.slice Ao33 y181.length co33) y181) ∧ Aside0 (Kd.R k55 55 w' w.heap.size (fun _ => True) (.slice Ao33 y181.length co33) y181) ∧ Aside0 (Kd.R Kd.string 9 w' w.heap.size (fun _ => True) u185002 x185002_2) ∧ Aside0 (w'.heap[gb170]? = some (.cells #[.string a0_0, .string a0_1, .string a0_2, (.slice Ao33 y181.length co33), (.slice A0_4 l0_4.length c0_4)] 44 (0, 0))) ∧ Aside0 (w'.heap[gb171]? = some (.cells #[.string (⟨#[]⟩ : ByteArray), .string (⟨#[]⟩ : ByteArray), .string (⟨#[]⟩ : ByteArray), (.slice none 0 0), (.slice none 0 0)] 44 (0, 0))) ∧ Aside0 (w'.heap[gb184]? = some (.cells #[.string a1, .string (t172.extract 0 8), u185002, .string (⟨#[]⟩ : ByteArray)] 26 (0, 0))) ∧ Aside0 (Below w.heap.size w w'))
   case atStart => exact ⟨(0), (([] : List ByteArray)), (.slice none 0 0), (by first | rfl | (simp; done) | (simp [*]; done)), H', ⟨Nat.le_refl _⟩, ⟨by (with_reducible repeat (first | apply Kd.R_alloc | apply Kd.R_drewN | apply Kd.R_drew)); exact Kd.R_mono (Kd.R_far (p := ⟨gb184, 3, none⟩) (Kd.R_far (p := ⟨gb184, 2, none⟩) (Kd.R_far (p := ⟨gb184, 1, none⟩) (Kd.R_far (p := ⟨gb184, 0, none⟩) (Kd.R_types HO183.out BK184.out (by decide)) (fun _ hk => hk.2) (.string a1)) (fun _ hk => hk.2) (.string (t172.extract 0 8))) (fun _ hk => hk.2) (.slice none 0 0)) (fun _ hk => hk.2) (.string (⟨#[]⟩ : ByteArray))) (fun _ hk => trivial)⟩, ⟨by (with_reducible repeat (first | apply Kd.R_alloc | apply Kd.R_drewN | apply Kd.R_drew)); exact Kd.R_mono (Kd.R_far (p := ⟨gb184, 3, none⟩) (Kd.R_far (p := ⟨gb184, 2, none⟩) (Kd.R_far (p := ⟨gb184, 1, none⟩) (Kd.R_far (p := ⟨gb184, 0, none⟩) (Kd.R_types HO183.out BK184.out (by decide)) (fun _ hk => hk.2) (.string a1)) (fun _ hk => hk.2) (.string (t172.extract 0 8))) (fun _ hk => hk.2) (.slice none 0 0)) (fun _ hk => hk.2) (.string (⟨#[]⟩ : ByteArray))) (fun _ hk => trivial)⟩, ⟨by first | exact Kd.R_nil _ _ _ _ _ | exact Kd.N_nil _ _ _ _ _ | exact Kd.V_nil _ _ _ _ _ | exact Kd.Q_nil _ _ _ _ _ | exact Kd.S_nil _ _ _ _ _⟩, ⟨by (with_reducible repeat (first | refine blk_drewN ?_ _ | refine blk_drew ?_ | refine blk_alloc ?_ _)); refine blk_far ?_ NB170_184.out _; (with_reducible repeat (first | refine blk_drewN ?_ _ | refine blk_drew ?_ | refine blk_alloc ?_ _)); refine blk_far ?_ NB170_184.out _; (with_reducible repeat (first | refine blk_drewN ?_ _ | refine blk_drew ?_ | refine blk_alloc ?_ _)); refine blk_far ?_ NB170_184.out _; (with_reducible repeat (first | refine blk_drewN ?_ _ | refine blk_drew ?_ | refine blk_alloc ?_ _)); refine blk_far ?_ NB170_184.out _; (with_reducible repeat (first | refine blk_drewN ?_ _ | refine blk_drew ?_ | refine blk_alloc ?_ _)); exact BK170.out⟩, ⟨by (with_reducible repeat (first | refine blk_drewN ?_ _ | refine blk_drew ?_ | refine blk_alloc ?_ _)); refine blk_far ?_ NB171_184.out _; (with_reducible repeat (first | refine blk_drewN ?_ _ | refine blk_drew ?_ | refine blk_alloc ?_ _)); refine blk_far ?_ NB171_184.out _; (with_reducible repeat (first | refine blk_drewN ?_ _ | refine blk_drew ?_ | refine blk_alloc ?_ _)); refine blk_far ?_ NB171_184.out _; (with_reducible repeat (first | refine blk_drewN ?_ _ | refine blk_drew ?_ | refine blk_alloc ?_ _)); refine blk_far ?_ NB171_184.out _; (with_reducible repeat (first | refine blk_drewN ?_ _ | refine blk_drew ?_ | refine blk_alloc ?_ _)); exact BK171.out⟩, ⟨by (with_reducible repeat (first | refine blk_drewN ?_ _ | refine blk_drew ?_ | refine blk_alloc ?_ _)); refine blk_put (cs := #[.string a1, .string (t172.extract 0 8), .slice none 0 0, .string (⟨#[]⟩ : ByteArray)]) ?_ 3 _ rfl; (with_reducible repeat (first | refine blk_drewN ?_ _ | refine blk_drew ?_ | refine blk_alloc ?_ _)); refine blk_put (cs := #[.string a1, .string (t172.extract 0 8), .slice none 0 0, .string (⟨#[]⟩ : ByteArray)]) ?_ 2 _ rfl; (with_reducible repeat (first | refine blk_drewN ?_ _ | refine blk_drew ?_ | refine blk_alloc ?_ _)); refine blk_put (cs := #[.string a1, .string (⟨#[]⟩ : ByteArray), .slice none 0 0, .string (⟨#[]⟩ : ByteArray)]) ?_ 1 _ rfl; (with_reducible repeat (first | refine blk_drewN ?_ _ | refine blk_drew ?_ | refine blk_alloc ?_ _)); refine blk_put (cs := #[.string (⟨#[]⟩ : ByteArray), .string (⟨#[]⟩ : ByteArray), .slice none 0 0, .string (⟨#[]⟩ : ByteArray)]) ?_ 0 _ rfl; (with_reducible repeat (first | refine blk_drewN ?_ _ | refine blk_drew ?_ | refine blk_alloc ?_ _)); exact BK184.out⟩, ⟨hb5_⟩⟩
   case round =>
    clear H'
    try clear c1
    try clear c2
    try clear p2
    try clear c3
    try clear c6
    try clear c6b0
    try clear c6b1
    try clear p6
    try clear c13
    try clear c18
    try clear c19
    try clear c20
    try clear c22
    try clear c23
    try clear c26
    try clear c27
    try clear c27b0
    try clear c27b1
    try clear c28
    try clear c28b0
    try clear c28b1
    try clear c29
    try clear c30
    try clear c31
    try clear c36
    try clear c37
    try clear hcz14_0
    try clear hcz14_1
    try clear hcz14_2
    try clear hcz14_3
    try clear hcz14_4
    try clear hcz16_0
    try clear hcz16_1
    try clear hcz16_2
    try clear hcz16_3
    try clear hcz16_4
    try clear hcz21_0
    try clear hcz21_1
    try clear hcz21_2
    try clear hcz21_3
    try clear hcz21_4
    try clear hcz24_0
    try clear hcz24_1
    try clear hcz24_2
    try clear hcz24_3
    try clear hcz24_4
    try clear hcz30_0
    try clear hcz30_1
    try clear hcz30_2
    try clear hcz30_3
    try clear hcz30_4
    try clear hcz34_0
    try clear hcz34_1
    try clear hcz34_2
    try clear hcz34_3
    try clear hcz34_4
    try clear hcz38_0
    try clear hcz38_1
    try clear hcz38_2
    try clear hcz38_3
    try clear hcz39_0
    try clear hcz39_1
    try clear hcz39_2
    try clear hcz39_3
    try clear hcz39_4
    try clear hfz14_0
    try clear hfz14_1
    try clear hfz14_2
    try clear hfz14_3
    try clear hfz14_4
    try clear hfz16_0
    try clear hfz16_1
    try clear hfz16_2
    try clear hfz16_3
    try clear hfz16_4
    try clear hfz21_0
    try clear hfz21_1
    try clear hfz21_2
    try clear hfz21_3
    try clear hfz21_4
    try clear hfz24_0
    try clear hfz24_1
    try clear hfz24_2
    try clear hfz24_3
    try clear hfz24_4
    try clear hfz30_0
    try clear hfz30_1
    try clear hfz30_2
    try clear hfz30_3
    try clear hfz30_4
    try clear hfz34_0
    try clear hfz34_1
    try clear hfz34_2
    try clear hfz34_3
    try clear hfz34_4
    try clear hfz38_0
    try clear hfz38_1
    try clear hfz38_2
    try clear hfz38_3
    try clear hfz39_0
    try clear hfz39_1
    try clear hfz39_2
    try clear hfz39_3
    try clear hfz39_4
    try clear p2
    try clear p6
    obtain ⟨x65_2, x185002_2, u185002, rfl, HA, HK2, HO_63, HO_171003, HO_185002, BK170, BK171, BK184, HB⟩ := hrel
    cases gk with
    | zero => exact absurd HA.out (by simp [sigv4_Attach.l0])
    | succ k2 =>
     have H := HA.out
     clear HA
     simp only [sigv4_Attach.l0] at H
     by_cases c40 : x65_2 < (y181.length : Int)
     ·rw [if_pos c40] at H
      have c40b0 : decide (x65_2 < (y181.length : Int)) = true := decide_eq_true c40
      clear c40
      by_cases c41 : 0 ≤ x65_2
      rotate_left
      ·rw [if_neg c41] at H
       exact absurd H (by simp)
      rw [if_pos c41] at H
      have c41b0 : decide (0 ≤ x65_2) = true := decide_eq_true c41
      clear c41
      by_cases c42 : x65_2 < (y181.length : Int)
      rotate_left
      ·rw [if_neg c42] at H
       exact absurd H (by simp)
      rw [if_pos c42] at H
      have c42b0 : decide (x65_2 < (y181.length : Int)) = true := decide_eq_true c42
      clear c42
      by_cases c43 : x185002_2.length < 8796093022208
      rotate_left
      ·rw [if_neg c43] at H
       exact absurd H (by simp)
      rw [if_pos c43] at H
      have LMc43 := Aside0.mk c43
      clear c43
      obtain ⟨y187, hy187⟩ : ∃ y_ : List ByteArray, y_ = (x185002_2 ++ [(rd_T55 y181 x65_2).f0]) := ⟨_, rfl⟩
      replace H : (sigv4_Attach.l0 k2 a2 a3 y181 (y181.length : Int) (wrap64 (x65_2 + 1)) a0_0 a0_1 a0_2 y181 l0_4 a1 (t172.extract 0 8) y187 (⟨#[]⟩ : ByteArray)) = some (r1, r2, r3, r4, r5, r6) := by first | (rw [hy187]; with_reducible exact H) | (have H2_ := (Option.bind_some _ _).symm.trans H; rw [hy187]; with_reducible exact H2_) | (have H2_ := (Option.bind_some _ _).symm.trans H; with_reducible exact H2_) | with_reducible exact H | (rw [hy187]; exact H) | exact H
      have Ny187 := Aside0.mk hy187
      clear hy187
      have H' := Aside0.mk H
      clear H
      have p185 : 0 ≤ (x65_2 : Int) := ode_
      have q185 : x65_2 < (y181.length : Int) := ode_
      obtain ⟨ad185, e185, hx185_0, hx185_1⟩ := at_T55 (Kd.R_reads' HO_63.out).2.2 x65_2 p185 q185
      cases e185
      replace p185 := eq_true p185
      replace q185 := eq_true q185
      go_wp2_with (first | ((with_reducible refine gate_dst (N := 18) rfl ?_); (try (refine gate_guard (by rfl) ?_; dsimp only)); refine box_event ?hg (N := 18) ?hd (cs := #[.string (⟨#[]⟩ : ByteArray), .string (⟨#[]⟩ : ByteArray)]) (t := 55) ?hr ?_; (case hd => rfl); (case hg => rfl); (case hr => first | (go_simp; done) | (go_simp; rfl)); intro gb186 hg w44 hbox hb; have n0_ := Aside0.mk (Kd.R_below (Kd.R_elderB (by (with_reducible repeat (first | apply Kd.R_alloc | apply Kd.R_drewN | apply Kd.R_drew)); exact HO_63.out) gb186 (Nat.le_of_eq hg.symm)) hb); have n1_ := Aside0.mk (Kd.R_below (Kd.R_elderB (by (with_reducible repeat (first | apply Kd.R_alloc | apply Kd.R_drewN | apply Kd.R_drew)); exact HO_171003.out) gb186 (Nat.le_of_eq hg.symm)) hb); have n2_ := Aside0.mk (Kd.R_below (by (with_reducible repeat (first | apply Kd.R_alloc | apply Kd.R_drewN | apply Kd.R_drew)); exact HO_185002.out) hb); have n3_ := Aside0.mk (blk_below (g := gb170) (o := .cells #[.string a0_0, .string a0_1, .string a0_2, .slice (some ad185) y181.length co33, .slice A0_4 l0_4.length c0_4] 44 (0, 0)) (by (with_reducible repeat (first | refine blk_drewN ?_ _ | refine blk_drew ?_ | refine blk_alloc ?_ _)); exact BK170.out) hb); have n4_ := Aside0.mk (blk_below (g := gb171) (o := .cells #[.string (⟨#[]⟩ : ByteArray), .string (⟨#[]⟩ : ByteArray), .string (⟨#[]⟩ : ByteArray), .slice none 0 0, .slice none 0 0] 44 (0, 0)) (by (with_reducible repeat (first | refine blk_drewN ?_ _ | refine blk_drew ?_ | refine blk_alloc ?_ _)); exact BK171.out) hb); have n5_ := Aside0.mk (blk_below (g := gb184) (o := .cells #[.string a1, .string (t172.extract 0 8), u185002, .string (⟨#[]⟩ : ByteArray)] 26 (0, 0)) (by (with_reducible repeat (first | refine blk_drewN ?_ _ | refine blk_drew ?_ | refine blk_alloc ?_ _)); exact BK184.out) hb); have n6_ := Aside0.mk (below_step hb5_ hb); have n7_ := Aside0.mk (hbox); have n8_ := Aside0.mk ((by rw [hg]; exact (below_size hb5_) : w.heap.size ≤ gb186)); have n9_ := Aside0.mk ((by rw [hg]; exact (below_size hb5_) : w.heap.size ≤ gb186)); have n10_ := Aside0.mk ((by rw [hg]; exact Nat.ne_of_lt (blk_lt (g := gb170) (o := .cells #[.string a0_0, .string a0_1, .string a0_2, .slice (some ad185) y181.length co33, .slice A0_4 l0_4.length c0_4] 44 (0, 0)) (by (with_reducible repeat (first | refine blk_drewN ?_ _ | refine blk_drew ?_ | refine blk_alloc ?_ _)); exact BK170.out)) : gb170 ≠ gb186)); have n11_ := Aside0.mk ((by rw [hg]; exact Nat.ne_of_gt (blk_lt (g := gb170) (o := .cells #[.string a0_0, .string a0_1, .string a0_2, .slice (some ad185) y181.length co33, .slice A0_4 l0_4.length c0_4] 44 (0, 0)) (by (with_reducible repeat (first | refine blk_drewN ?_ _ | refine blk_drew ?_ | refine blk_alloc ?_ _)); exact BK170.out)) : gb186 ≠ gb170)); have n12_ := Aside0.mk ((by rw [hg]; exact Nat.ne_of_lt (blk_lt (g := gb171) (o := .cells #[.string (⟨#[]⟩ : ByteArray), .string (⟨#[]⟩ : ByteArray), .string (⟨#[]⟩ : ByteArray), .slice none 0 0, .slice none 0 0] 44 (0, 0)) (by (with_reducible repeat (first | refine blk_drewN ?_ _ | refine blk_drew ?_ | refine blk_alloc ?_ _)); exact BK171.out)) : gb171 ≠ gb186)); have n13_ := Aside0.mk ((by rw [hg]; exact Nat.ne_of_gt (blk_lt (g := gb171) (o := .cells #[.string (⟨#[]⟩ : ByteArray), .string (⟨#[]⟩ : ByteArray), .string (⟨#[]⟩ : ByteArray), .slice none 0 0, .slice none 0 0] 44 (0, 0)) (by (with_reducible repeat (first | refine blk_drewN ?_ _ | refine blk_drew ?_ | refine blk_alloc ?_ _)); exact BK171.out)) : gb186 ≠ gb171)); have n14_ := Aside0.mk ((by rw [hg]; exact Nat.ne_of_lt (blk_lt (g := gb184) (o := .cells #[.string a1, .string (t172.extract 0 8), u185002, .string (⟨#[]⟩ : ByteArray)] 26 (0, 0)) (by (with_reducible repeat (first | refine blk_drewN ?_ _ | refine blk_drew ?_ | refine blk_alloc ?_ _)); exact BK184.out)) : gb184 ≠ gb186)); have n15_ := Aside0.mk ((by rw [hg]; exact Nat.ne_of_gt (blk_lt (g := gb184) (o := .cells #[.string a1, .string (t172.extract 0 8), u185002, .string (⟨#[]⟩ : ByteArray)] 26 (0, 0)) (by (with_reducible repeat (first | refine blk_drewN ?_ _ | refine blk_drew ?_ | refine blk_alloc ?_ _)); exact BK184.out)) : gb186 ≠ gb184)); clear HO_63; clear HO_171003; clear HO_185002; clear BK170; clear BK171; clear BK184; clear HB; have HO_63 := n0_; have HO_171003 := n1_; have HO_185002 := n2_; have BK170 := n3_; have BK171 := n4_; have BK184 := n5_; have HB := n6_; have BK186 := n7_; have GW186 := n8_; have GE186 := n9_; have NB170_186 := n10_; have NB186_170 := n11_; have NB171_186 := n12_; have NB186_171 := n13_; have NB184_186 := n14_; have NB186_184 := n15_; clear n0_ n1_ n2_ n3_ n4_ n5_ n6_ n7_ n8_ n9_ n10_ n11_ n12_ n13_ n14_ n15_; clear hb hbox hg; have hnb45 := NB186_170.out; have hnc45 := NB170_186.out; have hnb46 := NB186_171.out; have hnc46 := NB171_186.out; have hnb47 := NB186_184.out; have hnc47 := NB184_186.out; have hcz48_0 : w44.cell? ⟨gb186, 0, none⟩ = some (.string (⟨#[]⟩ : ByteArray)) := (blk_cell BK186.out 0).trans rfl; have hcz48_1 : w44.cell? ⟨gb186, 1, none⟩ = some (.string (⟨#[]⟩ : ByteArray)) := (blk_cell BK186.out 1).trans rfl; have hfz48_0 := blk_frozen BK186.out 0; have hfz48_1 := blk_frozen BK186.out 1; have hnb49 := NB184_170.out; have hnc49 := NB170_184.out; have hnb50 := NB184_171.out; have hnc50 := NB171_184.out; have hcz51_0 : w44.cell? ⟨gb184, 0, none⟩ = some (.string a1) := (blk_cell BK184.out 0).trans rfl; have hcz51_1 : w44.cell? ⟨gb184, 1, none⟩ = some (.string (t172.extract 0 8)) := (blk_cell BK184.out 1).trans rfl; have hcz51_2 : w44.cell? ⟨gb184, 2, none⟩ = some (u185002) := (blk_cell BK184.out 2).trans rfl; have hcz51_3 : w44.cell? ⟨gb184, 3, none⟩ = some (.string (⟨#[]⟩ : ByteArray)) := (blk_cell BK184.out 3).trans rfl; have hfz51_0 := blk_frozen BK184.out 0; have hfz51_1 := blk_frozen BK184.out 1; have hfz51_2 := blk_frozen BK184.out 2; have hfz51_3 := blk_frozen BK184.out 3) | ((with_reducible refine gate_builtin (b := .append) (xs := #[.tmp 70, .tmp 73]) rfl ?_); (try (refine gate_guard (by rfl) ?_; dsimp only)); at_builtin; refine Kd.R_append Kd.string (w0 := w) w.heap.size rfl (.tmp 70) (.tmp 73) 22 9 (.string ⟨#[]⟩) 16 rfl Tryz.underlying22 info9 rfl (by decide) (by omega) u185002 x185002_2 ((rd_T55 y181 x65_2).f0) [.string ((rd_T55 y181 x65_2).f0)] (fun _ => True) (fun _ => False) rfl (by first | (go_simp; done) | (go_simp; rfl)) ?aP (fun _ hk => hk.elim) ?aF ?aO ?aB ?aS ?aL ?_; (case aP => exact rfl); (case aB => exact hb13_); (case aF => exact (fun _ _ => trivial)); (case aO => exact (by (with_reducible repeat (first | apply Kd.R_alloc | apply Kd.R_drewN | apply Kd.R_drew)); exact Kd.R_mono (Kd.R_far (p := ⟨gb186, 1, none⟩) (Kd.R_far (p := ⟨gb186, 0, none⟩) (Kd.R_types HO_185002.out BK186.out (by decide)) (fun _ hk => hk.2) (.string ((rd_T55 y181 x65_2).f0))) (fun _ hk => hk.2) (.string ((rd_T55 y181 x65_2).f1))) (fun _ hk => trivial))); (case aS => exact (below_size hb13_)); (case aL => have := LMc43.out; omega); intro v188 w52 ho hb hg hat; rw [← Ny187.out] at ho; have n0_ := Aside0.mk (Kd.R_over' (by (with_reducible repeat (first | apply Kd.R_alloc | apply Kd.R_drewN | apply Kd.R_drew)); exact (Kd.R_mono (Kd.R_far (p := ⟨gb186, 1, none⟩) (Kd.R_far (p := ⟨gb186, 0, none⟩) (Kd.R_mono HO_63.out (fun k_ hk => (⟨hk, hk.2⟩ : _ ∧ k_ ≠ gb186))) (fun _ hk => hk.2) (.string ((rd_T55 y181 x65_2).f0))) (fun _ hk => hk.2) (.string ((rd_T55 y181 x65_2).f1))) (fun _ h_ => h_.1))) (Kd.R_typed (by (with_reducible repeat (first | apply Kd.R_alloc | apply Kd.R_drewN | apply Kd.R_drew)); exact (Kd.R_mono (Kd.R_far (p := ⟨gb186, 1, none⟩) (Kd.R_far (p := ⟨gb186, 0, none⟩) (Kd.R_types HO_185002.out BK186.out (by decide)) (fun _ hk => hk.2) (.string ((rd_T55 y181 x65_2).f0))) (fun _ hk => hk.2) (.string ((rd_T55 y181 x65_2).f1))) (fun _ h_ => h_.1)))) (by decide) hg); have n1_ := Aside0.mk (Kd.R_over' (by (with_reducible repeat (first | apply Kd.R_alloc | apply Kd.R_drewN | apply Kd.R_drew)); exact (Kd.R_mono (Kd.R_far (p := ⟨gb186, 1, none⟩) (Kd.R_far (p := ⟨gb186, 0, none⟩) (Kd.R_mono HO_171003.out (fun k_ hk => (⟨hk, hk.2⟩ : _ ∧ k_ ≠ gb186))) (fun _ hk => hk.2) (.string ((rd_T55 y181 x65_2).f0))) (fun _ hk => hk.2) (.string ((rd_T55 y181 x65_2).f1))) (fun _ h_ => h_.1))) (Kd.R_typed (by (with_reducible repeat (first | apply Kd.R_alloc | apply Kd.R_drewN | apply Kd.R_drew)); exact (Kd.R_mono (Kd.R_far (p := ⟨gb186, 1, none⟩) (Kd.R_far (p := ⟨gb186, 0, none⟩) (Kd.R_types HO_185002.out BK186.out (by decide)) (fun _ hk => hk.2) (.string ((rd_T55 y181 x65_2).f0))) (fun _ hk => hk.2) (.string ((rd_T55 y181 x65_2).f1))) (fun _ h_ => h_.1)))) (by decide) hg); have n2_ := Aside0.mk (blk_grown (g := gb170) (o := .cells #[.string a0_0, .string a0_1, .string a0_2, .slice (some ad185) y181.length co33, .slice A0_4 l0_4.length c0_4] 44 (0, 0)) (by (with_reducible repeat (first | refine blk_drewN ?_ _ | refine blk_drew ?_ | refine blk_alloc ?_ _)); refine blk_far ?_ NB170_186.out _; (with_reducible repeat (first | refine blk_drewN ?_ _ | refine blk_drew ?_ | refine blk_alloc ?_ _)); refine blk_far ?_ NB170_186.out _; (with_reducible repeat (first | refine blk_drewN ?_ _ | refine blk_drew ?_ | refine blk_alloc ?_ _)); exact BK170.out) hg (Kd.R_ne HO_185002.out BK170.out (by decide))); have n3_ := Aside0.mk (blk_grown (g := gb171) (o := .cells #[.string (⟨#[]⟩ : ByteArray), .string (⟨#[]⟩ : ByteArray), .string (⟨#[]⟩ : ByteArray), .slice none 0 0, .slice none 0 0] 44 (0, 0)) (by (with_reducible repeat (first | refine blk_drewN ?_ _ | refine blk_drew ?_ | refine blk_alloc ?_ _)); refine blk_far ?_ NB171_186.out _; (with_reducible repeat (first | refine blk_drewN ?_ _ | refine blk_drew ?_ | refine blk_alloc ?_ _)); refine blk_far ?_ NB171_186.out _; (with_reducible repeat (first | refine blk_drewN ?_ _ | refine blk_drew ?_ | refine blk_alloc ?_ _)); exact BK171.out) hg (Kd.R_ne HO_185002.out BK171.out (by decide))); have n4_ := Aside0.mk (blk_grown (g := gb184) (o := .cells #[.string a1, .string (t172.extract 0 8), u185002, .string (⟨#[]⟩ : ByteArray)] 26 (0, 0)) (by (with_reducible repeat (first | refine blk_drewN ?_ _ | refine blk_drew ?_ | refine blk_alloc ?_ _)); refine blk_far ?_ NB184_186.out _; (with_reducible repeat (first | refine blk_drewN ?_ _ | refine blk_drew ?_ | refine blk_alloc ?_ _)); refine blk_far ?_ NB184_186.out _; (with_reducible repeat (first | refine blk_drewN ?_ _ | refine blk_drew ?_ | refine blk_alloc ?_ _)); exact BK184.out) hg (Kd.R_ne HO_185002.out BK184.out (by decide))); have n5_ := Aside0.mk (blk_grown (g := gb186) (o := .cells #[.string ((rd_T55 y181 x65_2).f0), .string ((rd_T55 y181 x65_2).f1)] 55 (0, 0)) (by (with_reducible repeat (first | refine blk_drewN ?_ _ | refine blk_drew ?_ | refine blk_alloc ?_ _)); refine blk_put (cs := #[.string ((rd_T55 y181 x65_2).f0), .string (⟨#[]⟩ : ByteArray)]) ?_ 1 _ rfl; (with_reducible repeat (first | refine blk_drewN ?_ _ | refine blk_drew ?_ | refine blk_alloc ?_ _)); refine blk_put (cs := #[.string (⟨#[]⟩ : ByteArray), .string (⟨#[]⟩ : ByteArray)]) ?_ 0 _ rfl; (with_reducible repeat (first | refine blk_drewN ?_ _ | refine blk_drew ?_ | refine blk_alloc ?_ _)); exact BK186.out) hg (Kd.R_ne HO_185002.out BK186.out (by decide))); have n6_ := Aside0.mk (hb); have n7_ := Aside0.mk (ho); clear HO_63; clear HO_171003; clear BK170; clear BK171; clear BK184; clear BK186; clear HB; clear HO_185002; have HO_63 := n0_; have HO_171003 := n1_; have BK170 := n2_; have BK171 := n3_; have BK184 := n4_; have BK186 := n5_; have HB := n6_; have HO189 := n7_; clear n0_ n1_ n2_ n3_ n4_ n5_ n6_ n7_; clear ho hb hg hat; obtain ⟨Ao53, co53, eo53⟩ := Kd.R_slice HO189.out; subst eo53; have hcz54_0 : w52.cell? ⟨gb184, 0, none⟩ = some (.string a1) := (blk_cell BK184.out 0).trans rfl; have hcz54_1 : w52.cell? ⟨gb184, 1, none⟩ = some (.string (t172.extract 0 8)) := (blk_cell BK184.out 1).trans rfl; have hcz54_2 : w52.cell? ⟨gb184, 2, none⟩ = some (u185002) := (blk_cell BK184.out 2).trans rfl; have hcz54_3 : w52.cell? ⟨gb184, 3, none⟩ = some (.string (⟨#[]⟩ : ByteArray)) := (blk_cell BK184.out 3).trans rfl; have hfz54_0 := blk_frozen BK184.out 0; have hfz54_1 := blk_frozen BK184.out 1; have hfz54_2 := blk_frozen BK184.out 2; have hfz54_3 := blk_frozen BK184.out 3))
      go_roundg k2
      case measure => have := HJ8.out; have := HK2.out; omega
      case rel => exact ⟨(wrap64 (x65_2 + 1)), (y187), (.slice Ao53 y187.length co53), (by first | rfl | (simp; done) | (simp [*]; done)), H', ⟨by have := HJ8.out; have := HK2.out; omega⟩, ⟨by (with_reducible repeat (first | apply Kd.R_alloc | apply Kd.R_drewN | apply Kd.R_drew)); exact Kd.R_mono (Kd.R_far (p := ⟨gb184, 2, none⟩) (Kd.R_types HO_63.out BK184.out (by decide)) (fun _ hk => hk.2) (.slice Ao53 y187.length co53)) (fun _ hk => trivial)⟩, ⟨by (with_reducible repeat (first | apply Kd.R_alloc | apply Kd.R_drewN | apply Kd.R_drew)); exact Kd.R_mono (Kd.R_far (p := ⟨gb184, 2, none⟩) (Kd.R_types HO_171003.out BK184.out (by decide)) (fun _ hk => hk.2) (.slice Ao53 y187.length co53)) (fun _ hk => trivial)⟩, ⟨by (with_reducible repeat (first | apply Kd.R_alloc | apply Kd.R_drewN | apply Kd.R_drew)); exact Kd.R_mono (Kd.R_far (p := ⟨gb184, 2, none⟩) (Kd.R_types HO189.out BK184.out (by decide)) (fun _ hk => hk.2) (.slice Ao53 y187.length co53)) (fun _ hk => trivial)⟩, ⟨by (with_reducible repeat (first | refine blk_drewN ?_ _ | refine blk_drew ?_ | refine blk_alloc ?_ _)); refine blk_far ?_ NB170_184.out _; (with_reducible repeat (first | refine blk_drewN ?_ _ | refine blk_drew ?_ | refine blk_alloc ?_ _)); exact BK170.out⟩, ⟨by (with_reducible repeat (first | refine blk_drewN ?_ _ | refine blk_drew ?_ | refine blk_alloc ?_ _)); refine blk_far ?_ NB171_184.out _; (with_reducible repeat (first | refine blk_drewN ?_ _ | refine blk_drew ?_ | refine blk_alloc ?_ _)); exact BK171.out⟩, ⟨by (with_reducible repeat (first | refine blk_drewN ?_ _ | refine blk_drew ?_ | refine blk_alloc ?_ _)); refine blk_put (cs := #[.string a1, .string (t172.extract 0 8), u185002, .string (⟨#[]⟩ : ByteArray)]) ?_ 2 _ rfl; (with_reducible repeat (first | refine blk_drewN ?_ _ | refine blk_drew ?_ | refine blk_alloc ?_ _)); exact BK184.out⟩, ⟨hb13_⟩⟩
     rw [if_neg c40] at H
     have c40b0 : decide (x65_2 < (y181.length : Int)) = false := decide_eq_false c40
     clear c40
     replace H := Option.bind_eq_some_iff.mp H
     obtain ⟨t190, A550, H⟩ := H
     replace H : ((sigv4_Sign.f k2 a2 a0_0 a0_1 a0_2 y181 l0_4 t190 a3).bind fun bt191 => (if bt191.2 = 0 then ((sigv4_right.f k2 a1 (t172.extract 0 8) t190 bt191.1).bind fun t193 => (if t193 = true then ((sigv4_ShowAuth.f a1 (t172.extract 0 8) t190 bt191.1).bind fun t194 => (if y181.length < 4398046511104 then ((slices_Clone_byte_byte.f l0_4).bind fun t198 => (some (a0_0, a0_1, a0_2, (y181 ++ [(⟨(⟨#[97, 117, 116, 104, 111, 114, 105, 122, 97, 116, 105, 111, 110]⟩ : ByteArray), t194⟩ : S55)]), t198, 0))) else (none))) else (some ((⟨#[]⟩ : ByteArray), (⟨#[]⟩ : ByteArray), (⟨#[]⟩ : ByteArray), ([] : List (S55)), ([] : List Int), 20)))) else (some ((⟨#[]⟩ : ByteArray), (⟨#[]⟩ : ByteArray), (⟨#[]⟩ : ByteArray), ([] : List (S55)), ([] : List Int), bt191.2)))) = some (r1, r2, r3, r4, r5, r6) := H
     have A55 := Aside0.mk A550
     clear A550
     replace H := Option.bind_eq_some_iff.mp H
     obtain ⟨⟨t191, t192⟩, A560, H⟩ := H
     replace H : (if t192 = 0 then ((sigv4_right.f k2 a1 (t172.extract 0 8) t190 t191).bind fun t193 => (if t193 = true then ((sigv4_ShowAuth.f a1 (t172.extract 0 8) t190 t191).bind fun t194 => (if y181.length < 4398046511104 then ((slices_Clone_byte_byte.f l0_4).bind fun t198 => (some (a0_0, a0_1, a0_2, (y181 ++ [(⟨(⟨#[97, 117, 116, 104, 111, 114, 105, 122, 97, 116, 105, 111, 110]⟩ : ByteArray), t194⟩ : S55)]), t198, 0))) else (none))) else (some ((⟨#[]⟩ : ByteArray), (⟨#[]⟩ : ByteArray), (⟨#[]⟩ : ByteArray), ([] : List (S55)), ([] : List Int), 20)))) else (some ((⟨#[]⟩ : ByteArray), (⟨#[]⟩ : ByteArray), (⟨#[]⟩ : ByteArray), ([] : List (S55)), ([] : List Int), t192))) = some (r1, r2, r3, r4, r5, r6) := H
     have A56 := Aside0.mk A560
     clear A560
     by_cases c57 : t192 = 0
     rotate_left
     ·rw [if_neg c57] at H
      have c57b0 : (t192 == 0) = false := beq_eq_false_iff_ne.mpr c57
      have c57b1 : (t192 != 0) = true := bne_iff_ne.mpr c57
      simp only [Option.some.injEq, Prod.mk.injEq] at H
      obtain ⟨rfl, rfl, rfl, rfl, rfl, rfl⟩ := H
      have hnb96 := NB184_170.out
      have hnc96 := NB170_184.out
      have hnb97 := NB184_171.out
      have hnc97 := NB171_184.out
      have hcz98_0 : wr.cell? ⟨gb184, 0, none⟩ = some (.string a1) := (blk_cell BK184.out 0).trans rfl
      have hcz98_1 : wr.cell? ⟨gb184, 1, none⟩ = some (.string (t172.extract 0 8)) := (blk_cell BK184.out 1).trans rfl
      have hcz98_2 : wr.cell? ⟨gb184, 2, none⟩ = some (u185002) := (blk_cell BK184.out 2).trans rfl
      have hcz98_3 : wr.cell? ⟨gb184, 3, none⟩ = some (.string (⟨#[]⟩ : ByteArray)) := (blk_cell BK184.out 3).trans rfl
      have hfz98_0 := blk_frozen BK184.out 0
      have hfz98_1 := blk_frozen BK184.out 1
      have hfz98_2 := blk_frozen BK184.out 2
      have hfz98_3 := blk_frozen BK184.out 3
      obtain ⟨Ao99, co99, eo99⟩ := Kd.R_slice HO_185002.out
      subst eo99
      go_wp2_with (first | ((with_reducible refine gate_callee (f := 32) rfl ?_); refine goesL_ (some 79) rfl rfl Tryz.func32 (by kernel_rfl) rfl #[.slice Ao99 x185002_2.length co99] rfl (by (try simp only [List.map_toArray, List.map_cons, List.map_nil]); first | done | rfl | (simp only [List.length_drop, List.length_take]; rfl)) ?_; (with_reducible refine (slices_Sort_string_string.calls (fun k_ => some k_ = (.slice Ao99 x185002_2.length co99 : Value).ownBlock) (.slice Ao99 x185002_2.length co99) x185002_2 t190 w _ ?side1 ?side2 A55.out).mono ?_); (case side1 => repeat (first | (with_reducible first | exact HB.out | apply below_alloc | apply pw_below_drewN | apply below_drew1 | refine below_set ?_ GE170.out | refine below_set ?_ GE171.out | refine below_set ?_ GE184.out) | exact HB.out)); (case side2 => exact Kd.R_tight rfl HO_185002.out); rintro e w100 ⟨rfl, hy0, hb, hkp⟩; refine ⟨_, rfl, ?_⟩; have n0_ := Aside0.mk (Kd.R_mono (ok' := fun k_ => True) (Kd.R_keptB ((Kd.R_apart' HO_63.out (Kd.R_typed HO_185002.out) (by decide))) hkp (fun k_ hk_ hs_ => (hk_.2) hs_)) (fun k_ hk_ => trivial)); have n1_ := Aside0.mk (Kd.R_mono (ok' := fun k_ => True) (Kd.R_keptB ((Kd.R_apart' HO_171003.out (Kd.R_typed HO_185002.out) (by decide))) hkp (fun k_ hk_ hs_ => (hk_.2) hs_)) (fun k_ hk_ => trivial)); have n2_ := Aside0.mk (Kd.R_reok rfl hy0 (fun k_ e_ => HO_185002.out.1 k_ e_)); have n3_ := Aside0.mk (blk_kept (by (with_reducible repeat (first | refine blk_drewN ?_ _ | refine blk_drew ?_ | refine blk_alloc ?_ _)); exact BK170.out) hkp (fun hs_ => (fun e_ => (Kd.R_ne HO_185002.out BK170.out (by decide)) e_) hs_)); have n4_ := Aside0.mk (blk_kept (by (with_reducible repeat (first | refine blk_drewN ?_ _ | refine blk_drew ?_ | refine blk_alloc ?_ _)); exact BK171.out) hkp (fun hs_ => (fun e_ => (Kd.R_ne HO_185002.out BK171.out (by decide)) e_) hs_)); have n5_ := Aside0.mk (blk_kept (by (with_reducible repeat (first | refine blk_drewN ?_ _ | refine blk_drew ?_ | refine blk_alloc ?_ _)); exact BK184.out) hkp (fun hs_ => (fun e_ => (Kd.R_ne HO_185002.out BK184.out (by decide)) e_) hs_)); have n6_ := Aside0.mk (hb); clear HO_63; clear HO_171003; clear HO_185002; clear BK170; clear BK171; clear BK184; clear HB; have HO_63 := n0_; have HO_171003 := n1_; have HO_185002 := n2_; have BK170 := n3_; have BK171 := n4_; have BK184 := n5_; have HB := n6_; clear n0_ n1_ n2_ n3_ n4_ n5_ n6_; (try clear hb); (try clear hkp); (try clear hy0); have hnb101 := NB170_171.out; have hnc101 := NB171_170.out; have hcz102_0 : w100.cell? ⟨gb170, 0, none⟩ = some (.string a0_0) := (blk_cell BK170.out 0).trans rfl; have hcz102_1 : w100.cell? ⟨gb170, 1, none⟩ = some (.string a0_1) := (blk_cell BK170.out 1).trans rfl; have hcz102_2 : w100.cell? ⟨gb170, 2, none⟩ = some (.string a0_2) := (blk_cell BK170.out 2).trans rfl; have hcz102_3 : w100.cell? ⟨gb170, 3, none⟩ = some (.slice Ao33 y181.length co33) := (blk_cell BK170.out 3).trans rfl; have hcz102_4 : w100.cell? ⟨gb170, 4, none⟩ = some (.slice A0_4 l0_4.length c0_4) := (blk_cell BK170.out 4).trans rfl; have hfz102_0 := blk_frozen BK170.out 0; have hfz102_1 := blk_frozen BK170.out 1; have hfz102_2 := blk_frozen BK170.out 2; have hfz102_3 := blk_frozen BK170.out 3; have hfz102_4 := blk_frozen BK170.out 4; have hcz103_0 : w100.cell? ⟨gb184, 0, none⟩ = some (.string a1) := (blk_cell BK184.out 0).trans rfl; have hcz103_1 : w100.cell? ⟨gb184, 1, none⟩ = some (.string (t172.extract 0 8)) := (blk_cell BK184.out 1).trans rfl; have hcz103_2 : w100.cell? ⟨gb184, 2, none⟩ = some (.slice Ao99 x185002_2.length co99) := (blk_cell BK184.out 2).trans rfl; have hcz103_3 : w100.cell? ⟨gb184, 3, none⟩ = some (.string (⟨#[]⟩ : ByteArray)) := (blk_cell BK184.out 3).trans rfl; have hfz103_0 := blk_frozen BK184.out 0; have hfz103_1 := blk_frozen BK184.out 1; have hfz103_2 := blk_frozen BK184.out 2; have hfz103_3 := blk_frozen BK184.out 3) | ((with_reducible refine gate_callee (f := 33) rfl ?_); refine goesL_ (some 86) rfl rfl Tryz.func33 (by kernel_rfl) rfl #[.string a2, .agg #[.string a0_0, .string a0_1, .string a0_2, .slice Ao33 y181.length co33, .slice A0_4 l0_4.length c0_4], .slice Ao99 t190.length co99, .int .u64 a3] rfl (by (try simp only [List.map_toArray, List.map_cons, List.map_nil]); first | done | (rw [show t190.length = x185002_2.length from (Kd.R_reads' HO_185002.out).1.symm] <;> rfl) | rfl | (simp only [List.length_drop, List.length_take]; rfl)) ?_; (with_reducible refine (sigv4_Sign.calls _ _ _ _ _ _ _ _ _ _ _ _ _ _ _ _ _ _ ?side1 ?side2 ?side3 ?side4 ?side5 ?side6 A56.out).mono ?_); (case side1 => repeat (first | exact (Kd.R_reads' HO_171003.out).2.2 | (with_reducible refine Kd.C_alloc ?_ _) | (with_reducible refine Kd.C_drewN ?_ _) | (with_reducible refine Kd.C_drew ?_))); (case side2 => exact (Kd.R_reads' HO_171003.out).2.1); (case side3 => repeat (first | exact (Kd.C_below HR0_4.out HB.out) | (with_reducible refine Kd.C_alloc ?_ _) | (with_reducible refine Kd.C_drewN ?_ _) | (with_reducible refine Kd.C_drew ?_))); (case side4 => exact HC0_4.out); (case side5 => repeat (first | exact (Kd.R_reads' HO_185002.out).2.2 | (with_reducible refine Kd.C_alloc ?_ _) | (with_reducible refine Kd.C_drewN ?_ _) | (with_reducible refine Kd.C_drew ?_))); (case side6 => rw [show t190.length = x185002_2.length from (Kd.R_reads' HO_185002.out).1.symm]; exact (Kd.R_reads' HO_185002.out).2.1); rintro e w104 ⟨rfl, hb⟩; refine ⟨_, rfl, ?_⟩; have n0_ := Aside0.mk (Kd.R_below (by (with_reducible repeat (first | apply Kd.R_alloc | apply Kd.R_drewN | apply Kd.R_drew)); exact HO_63.out) hb); have n1_ := Aside0.mk (Kd.R_below (by (with_reducible repeat (first | apply Kd.R_alloc | apply Kd.R_drewN | apply Kd.R_drew)); exact HO_171003.out) hb); have n2_ := Aside0.mk (Kd.R_below (by (with_reducible repeat (first | apply Kd.R_alloc | apply Kd.R_drewN | apply Kd.R_drew)); exact HO_185002.out) hb); have n3_ := Aside0.mk (blk_below (g := gb170) (o := .cells #[.string a0_0, .string a0_1, .string a0_2, .slice Ao33 y181.length co33, .slice A0_4 l0_4.length c0_4] 44 (0, 0)) (by (with_reducible repeat (first | refine blk_drewN ?_ _ | refine blk_drew ?_ | refine blk_alloc ?_ _)); exact BK170.out) hb); have n4_ := Aside0.mk (blk_below (g := gb171) (o := .cells #[.string (⟨#[]⟩ : ByteArray), .string (⟨#[]⟩ : ByteArray), .string (⟨#[]⟩ : ByteArray), .slice none 0 0, .slice none 0 0] 44 (0, 0)) (by (with_reducible repeat (first | refine blk_drewN ?_ _ | refine blk_drew ?_ | refine blk_alloc ?_ _)); exact BK171.out) hb); have n5_ := Aside0.mk (blk_below (g := gb184) (o := .cells #[.string a1, .string (t172.extract 0 8), .slice Ao99 x185002_2.length co99, .string (⟨#[]⟩ : ByteArray)] 26 (0, 0)) (by (with_reducible repeat (first | refine blk_drewN ?_ _ | refine blk_drew ?_ | refine blk_alloc ?_ _)); exact BK184.out) hb); have n6_ := Aside0.mk (below_step hb5_ hb); clear HO_63; clear HO_171003; clear HO_185002; clear BK170; clear BK171; clear BK184; clear HB; have HO_63 := n0_; have HO_171003 := n1_; have HO_185002 := n2_; have BK170 := n3_; have BK171 := n4_; have BK184 := n5_; have HB := n6_; clear n0_ n1_ n2_ n3_ n4_ n5_ n6_; (try clear hb); (try clear hb2); (try clear hk); (try clear hi); have hcz105_0 : w104.cell? ⟨gb184, 0, none⟩ = some (.string a1) := (blk_cell BK184.out 0).trans rfl; have hcz105_1 : w104.cell? ⟨gb184, 1, none⟩ = some (.string (t172.extract 0 8)) := (blk_cell BK184.out 1).trans rfl; have hcz105_2 : w104.cell? ⟨gb184, 2, none⟩ = some (.slice Ao99 x185002_2.length co99) := (blk_cell BK184.out 2).trans rfl; have hcz105_3 : w104.cell? ⟨gb184, 3, none⟩ = some (.string (⟨#[]⟩ : ByteArray)) := (blk_cell BK184.out 3).trans rfl; have hfz105_0 := blk_frozen BK184.out 0; have hfz105_1 := blk_frozen BK184.out 1; have hfz105_2 := blk_frozen BK184.out 2; have hfz105_3 := blk_frozen BK184.out 3; have hcz106_0 : w104.cell? ⟨gb171, 0, none⟩ = some (.string (⟨#[]⟩ : ByteArray)) := (blk_cell BK171.out 0).trans rfl; have hcz106_1 : w104.cell? ⟨gb171, 1, none⟩ = some (.string (⟨#[]⟩ : ByteArray)) := (blk_cell BK171.out 1).trans rfl; have hcz106_2 : w104.cell? ⟨gb171, 2, none⟩ = some (.string (⟨#[]⟩ : ByteArray)) := (blk_cell BK171.out 2).trans rfl; have hcz106_3 : w104.cell? ⟨gb171, 3, none⟩ = some (.slice none 0 0) := (blk_cell BK171.out 3).trans rfl; have hcz106_4 : w104.cell? ⟨gb171, 4, none⟩ = some (.slice none 0 0) := (blk_cell BK171.out 4).trans rfl; have hfz106_0 := blk_frozen BK171.out 0; have hfz106_1 := blk_frozen BK171.out 1; have hfz106_2 := blk_frozen BK171.out 2; have hfz106_3 := blk_frozen BK171.out 3; have hfz106_4 := blk_frozen BK171.out 4))
      refine bodyPost_ret (results_ct rfl _ _ gb171 44 #[.string (⟨#[]⟩ : ByteArray), .string (⟨#[]⟩ : ByteArray), .string (⟨#[]⟩ : ByteArray), .slice none 0 0, .slice none 0 0] (0, 0) _ rfl (by (with_reducible repeat (first | refine blk_drewN ?_ _ | refine blk_drew ?_ | refine blk_alloc ?_ _)); refine blk_put (cs := #[.string (⟨#[]⟩ : ByteArray), .string (⟨#[]⟩ : ByteArray), .string (⟨#[]⟩ : ByteArray), .slice none 0 0, .slice none 0 0]) ?_ 4 _ rfl; (with_reducible repeat (first | refine blk_drewN ?_ _ | refine blk_drew ?_ | refine blk_alloc ?_ _)); refine blk_put (cs := #[.string (⟨#[]⟩ : ByteArray), .string (⟨#[]⟩ : ByteArray), .string (⟨#[]⟩ : ByteArray), .slice none 0 0, .slice none 0 0]) ?_ 3 _ rfl; (with_reducible repeat (first | refine blk_drewN ?_ _ | refine blk_drew ?_ | refine blk_alloc ?_ _)); refine blk_put (cs := #[.string (⟨#[]⟩ : ByteArray), .string (⟨#[]⟩ : ByteArray), .string (⟨#[]⟩ : ByteArray), .slice none 0 0, .slice none 0 0]) ?_ 2 _ rfl; (with_reducible repeat (first | refine blk_drewN ?_ _ | refine blk_drew ?_ | refine blk_alloc ?_ _)); refine blk_put (cs := #[.string (⟨#[]⟩ : ByteArray), .string (⟨#[]⟩ : ByteArray), .string (⟨#[]⟩ : ByteArray), .slice none 0 0, .slice none 0 0]) ?_ 1 _ rfl; (with_reducible repeat (first | refine blk_drewN ?_ _ | refine blk_drew ?_ | refine blk_alloc ?_ _)); refine blk_put (cs := #[.string (⟨#[]⟩ : ByteArray), .string (⟨#[]⟩ : ByteArray), .string (⟨#[]⟩ : ByteArray), .slice none 0 0, .slice none 0 0]) ?_ 0 _ rfl; (with_reducible repeat (first | refine blk_drewN ?_ _ | refine blk_drew ?_ | refine blk_alloc ?_ _)); refine blk_far ?_ NB171_184.out _; (with_reducible repeat (first | refine blk_drewN ?_ _ | refine blk_drew ?_ | refine blk_alloc ?_ _)); exact BK171.out) Tryz.underlying44 rfl (by kernel_rfl)) rfl ?_
      exact ⟨_, _, by first | rfl | (simp [errW_none, errW_some] <;> rfl) | (simp [*, errW_none, errW_some] <;> rfl), by first | exact Kd.R_nil _ _ _ _ _ | exact Kd.N_nil _ _ _ _ _ | exact Kd.V_nil _ _ _ _ _ | exact Kd.Q_nil _ _ _ _ _ | exact Kd.S_nil _ _ _ _ _, by first | exact Kd.R_nil _ _ _ _ _ | exact Kd.N_nil _ _ _ _ _ | exact Kd.V_nil _ _ _ _ _ | exact Kd.Q_nil _ _ _ _ _ | exact Kd.S_nil _ _ _ _ _, hb5_⟩
     rw [if_pos c57] at H
     have c57b0 : (t192 == 0) = true := beq_iff_eq.mpr c57
     have c57b1 : (t192 != 0) = false := bne_eq_false_iff_eq.mpr c57
     clear c57
     replace H := Option.bind_eq_some_iff.mp H
     obtain ⟨t193, A580, H⟩ := H
     replace H : (if t193 = true then ((sigv4_ShowAuth.f a1 (t172.extract 0 8) t190 t191).bind fun t194 => (if y181.length < 4398046511104 then ((slices_Clone_byte_byte.f l0_4).bind fun t198 => (some (a0_0, a0_1, a0_2, (y181 ++ [(⟨(⟨#[97, 117, 116, 104, 111, 114, 105, 122, 97, 116, 105, 111, 110]⟩ : ByteArray), t194⟩ : S55)]), t198, 0))) else (none))) else (some ((⟨#[]⟩ : ByteArray), (⟨#[]⟩ : ByteArray), (⟨#[]⟩ : ByteArray), ([] : List (S55)), ([] : List Int), 20))) = some (r1, r2, r3, r4, r5, r6) := H
     have A58 := Aside0.mk A580
     clear A580
     by_cases c59 : t193 = true
     rotate_left
     ·replace c59 := Bool.eq_false_iff.mpr c59
      subst c59
      have H1 : (some ((⟨#[]⟩ : ByteArray), (⟨#[]⟩ : ByteArray), (⟨#[]⟩ : ByteArray), ([] : List (S55)), ([] : List Int), 20)) = some (r1, r2, r3, r4, r5, r6) := by rw [if_neg (show ¬ (false = true) by decide)] at H; exact H
      clear H
      have H := H1
      clear H1
      simp only [Option.some.injEq, Prod.mk.injEq] at H
      obtain ⟨rfl, rfl, rfl, rfl, rfl, rfl⟩ := H
      have hnb84 := NB184_170.out
      have hnc84 := NB170_184.out
      have hnb85 := NB184_171.out
      have hnc85 := NB171_184.out
      have hcz86_0 : wr.cell? ⟨gb184, 0, none⟩ = some (.string a1) := (blk_cell BK184.out 0).trans rfl
      have hcz86_1 : wr.cell? ⟨gb184, 1, none⟩ = some (.string (t172.extract 0 8)) := (blk_cell BK184.out 1).trans rfl
      have hcz86_2 : wr.cell? ⟨gb184, 2, none⟩ = some (u185002) := (blk_cell BK184.out 2).trans rfl
      have hcz86_3 : wr.cell? ⟨gb184, 3, none⟩ = some (.string (⟨#[]⟩ : ByteArray)) := (blk_cell BK184.out 3).trans rfl
      have hfz86_0 := blk_frozen BK184.out 0
      have hfz86_1 := blk_frozen BK184.out 1
      have hfz86_2 := blk_frozen BK184.out 2
      have hfz86_3 := blk_frozen BK184.out 3
      obtain ⟨Ao87, co87, eo87⟩ := Kd.R_slice HO_185002.out
      subst eo87
      go_wp2_with (first | ((with_reducible refine gate_callee (f := 32) rfl ?_); refine goesL_ (some 79) rfl rfl Tryz.func32 (by kernel_rfl) rfl #[.slice Ao87 x185002_2.length co87] rfl (by (try simp only [List.map_toArray, List.map_cons, List.map_nil]); first | done | rfl | (simp only [List.length_drop, List.length_take]; rfl)) ?_; (with_reducible refine (slices_Sort_string_string.calls (fun k_ => some k_ = (.slice Ao87 x185002_2.length co87 : Value).ownBlock) (.slice Ao87 x185002_2.length co87) x185002_2 t190 w _ ?side1 ?side2 A55.out).mono ?_); (case side1 => repeat (first | (with_reducible first | exact HB.out | apply below_alloc | apply pw_below_drewN | apply below_drew1 | refine below_set ?_ GE170.out | refine below_set ?_ GE171.out | refine below_set ?_ GE184.out) | exact HB.out)); (case side2 => exact Kd.R_tight rfl HO_185002.out); rintro e w88 ⟨rfl, hy0, hb, hkp⟩; refine ⟨_, rfl, ?_⟩; have n0_ := Aside0.mk (Kd.R_mono (ok' := fun k_ => True) (Kd.R_keptB ((Kd.R_apart' HO_63.out (Kd.R_typed HO_185002.out) (by decide))) hkp (fun k_ hk_ hs_ => (hk_.2) hs_)) (fun k_ hk_ => trivial)); have n1_ := Aside0.mk (Kd.R_mono (ok' := fun k_ => True) (Kd.R_keptB ((Kd.R_apart' HO_171003.out (Kd.R_typed HO_185002.out) (by decide))) hkp (fun k_ hk_ hs_ => (hk_.2) hs_)) (fun k_ hk_ => trivial)); have n2_ := Aside0.mk (Kd.R_reok rfl hy0 (fun k_ e_ => HO_185002.out.1 k_ e_)); have n3_ := Aside0.mk (blk_kept (by (with_reducible repeat (first | refine blk_drewN ?_ _ | refine blk_drew ?_ | refine blk_alloc ?_ _)); exact BK170.out) hkp (fun hs_ => (fun e_ => (Kd.R_ne HO_185002.out BK170.out (by decide)) e_) hs_)); have n4_ := Aside0.mk (blk_kept (by (with_reducible repeat (first | refine blk_drewN ?_ _ | refine blk_drew ?_ | refine blk_alloc ?_ _)); exact BK171.out) hkp (fun hs_ => (fun e_ => (Kd.R_ne HO_185002.out BK171.out (by decide)) e_) hs_)); have n5_ := Aside0.mk (blk_kept (by (with_reducible repeat (first | refine blk_drewN ?_ _ | refine blk_drew ?_ | refine blk_alloc ?_ _)); exact BK184.out) hkp (fun hs_ => (fun e_ => (Kd.R_ne HO_185002.out BK184.out (by decide)) e_) hs_)); have n6_ := Aside0.mk (hb); clear HO_63; clear HO_171003; clear HO_185002; clear BK170; clear BK171; clear BK184; clear HB; have HO_63 := n0_; have HO_171003 := n1_; have HO_185002 := n2_; have BK170 := n3_; have BK171 := n4_; have BK184 := n5_; have HB := n6_; clear n0_ n1_ n2_ n3_ n4_ n5_ n6_; (try clear hb); (try clear hkp); (try clear hy0); have hnb89 := NB170_171.out; have hnc89 := NB171_170.out; have hcz90_0 : w88.cell? ⟨gb170, 0, none⟩ = some (.string a0_0) := (blk_cell BK170.out 0).trans rfl; have hcz90_1 : w88.cell? ⟨gb170, 1, none⟩ = some (.string a0_1) := (blk_cell BK170.out 1).trans rfl; have hcz90_2 : w88.cell? ⟨gb170, 2, none⟩ = some (.string a0_2) := (blk_cell BK170.out 2).trans rfl; have hcz90_3 : w88.cell? ⟨gb170, 3, none⟩ = some (.slice Ao33 y181.length co33) := (blk_cell BK170.out 3).trans rfl; have hcz90_4 : w88.cell? ⟨gb170, 4, none⟩ = some (.slice A0_4 l0_4.length c0_4) := (blk_cell BK170.out 4).trans rfl; have hfz90_0 := blk_frozen BK170.out 0; have hfz90_1 := blk_frozen BK170.out 1; have hfz90_2 := blk_frozen BK170.out 2; have hfz90_3 := blk_frozen BK170.out 3; have hfz90_4 := blk_frozen BK170.out 4; have hcz91_0 : w88.cell? ⟨gb184, 0, none⟩ = some (.string a1) := (blk_cell BK184.out 0).trans rfl; have hcz91_1 : w88.cell? ⟨gb184, 1, none⟩ = some (.string (t172.extract 0 8)) := (blk_cell BK184.out 1).trans rfl; have hcz91_2 : w88.cell? ⟨gb184, 2, none⟩ = some (.slice Ao87 x185002_2.length co87) := (blk_cell BK184.out 2).trans rfl; have hcz91_3 : w88.cell? ⟨gb184, 3, none⟩ = some (.string (⟨#[]⟩ : ByteArray)) := (blk_cell BK184.out 3).trans rfl; have hfz91_0 := blk_frozen BK184.out 0; have hfz91_1 := blk_frozen BK184.out 1; have hfz91_2 := blk_frozen BK184.out 2; have hfz91_3 := blk_frozen BK184.out 3) | ((with_reducible refine gate_callee (f := 33) rfl ?_); refine goesL_ (some 86) rfl rfl Tryz.func33 (by kernel_rfl) rfl #[.string a2, .agg #[.string a0_0, .string a0_1, .string a0_2, .slice Ao33 y181.length co33, .slice A0_4 l0_4.length c0_4], .slice Ao87 t190.length co87, .int .u64 a3] rfl (by (try simp only [List.map_toArray, List.map_cons, List.map_nil]); first | done | (rw [show t190.length = x185002_2.length from (Kd.R_reads' HO_185002.out).1.symm] <;> rfl) | rfl | (simp only [List.length_drop, List.length_take]; rfl)) ?_; (with_reducible refine (sigv4_Sign.calls _ _ _ _ _ _ _ _ _ _ _ _ _ _ _ _ _ _ ?side1 ?side2 ?side3 ?side4 ?side5 ?side6 A56.out).mono ?_); (case side1 => repeat (first | exact (Kd.R_reads' HO_171003.out).2.2 | (with_reducible refine Kd.C_alloc ?_ _) | (with_reducible refine Kd.C_drewN ?_ _) | (with_reducible refine Kd.C_drew ?_))); (case side2 => exact (Kd.R_reads' HO_171003.out).2.1); (case side3 => repeat (first | exact (Kd.C_below HR0_4.out HB.out) | (with_reducible refine Kd.C_alloc ?_ _) | (with_reducible refine Kd.C_drewN ?_ _) | (with_reducible refine Kd.C_drew ?_))); (case side4 => exact HC0_4.out); (case side5 => repeat (first | exact (Kd.R_reads' HO_185002.out).2.2 | (with_reducible refine Kd.C_alloc ?_ _) | (with_reducible refine Kd.C_drewN ?_ _) | (with_reducible refine Kd.C_drew ?_))); (case side6 => rw [show t190.length = x185002_2.length from (Kd.R_reads' HO_185002.out).1.symm]; exact (Kd.R_reads' HO_185002.out).2.1); rintro e w92 ⟨rfl, hb⟩; refine ⟨_, rfl, ?_⟩; have n0_ := Aside0.mk (Kd.R_below (by (with_reducible repeat (first | apply Kd.R_alloc | apply Kd.R_drewN | apply Kd.R_drew)); exact HO_63.out) hb); have n1_ := Aside0.mk (Kd.R_below (by (with_reducible repeat (first | apply Kd.R_alloc | apply Kd.R_drewN | apply Kd.R_drew)); exact HO_171003.out) hb); have n2_ := Aside0.mk (Kd.R_below (by (with_reducible repeat (first | apply Kd.R_alloc | apply Kd.R_drewN | apply Kd.R_drew)); exact HO_185002.out) hb); have n3_ := Aside0.mk (blk_below (g := gb170) (o := .cells #[.string a0_0, .string a0_1, .string a0_2, .slice Ao33 y181.length co33, .slice A0_4 l0_4.length c0_4] 44 (0, 0)) (by (with_reducible repeat (first | refine blk_drewN ?_ _ | refine blk_drew ?_ | refine blk_alloc ?_ _)); exact BK170.out) hb); have n4_ := Aside0.mk (blk_below (g := gb171) (o := .cells #[.string (⟨#[]⟩ : ByteArray), .string (⟨#[]⟩ : ByteArray), .string (⟨#[]⟩ : ByteArray), .slice none 0 0, .slice none 0 0] 44 (0, 0)) (by (with_reducible repeat (first | refine blk_drewN ?_ _ | refine blk_drew ?_ | refine blk_alloc ?_ _)); exact BK171.out) hb); have n5_ := Aside0.mk (blk_below (g := gb184) (o := .cells #[.string a1, .string (t172.extract 0 8), .slice Ao87 x185002_2.length co87, .string (⟨#[]⟩ : ByteArray)] 26 (0, 0)) (by (with_reducible repeat (first | refine blk_drewN ?_ _ | refine blk_drew ?_ | refine blk_alloc ?_ _)); exact BK184.out) hb); have n6_ := Aside0.mk (below_step hb5_ hb); clear HO_63; clear HO_171003; clear HO_185002; clear BK170; clear BK171; clear BK184; clear HB; have HO_63 := n0_; have HO_171003 := n1_; have HO_185002 := n2_; have BK170 := n3_; have BK171 := n4_; have BK184 := n5_; have HB := n6_; clear n0_ n1_ n2_ n3_ n4_ n5_ n6_; (try clear hb); (try clear hb2); (try clear hk); (try clear hi); have hcz93_0 : w92.cell? ⟨gb184, 0, none⟩ = some (.string a1) := (blk_cell BK184.out 0).trans rfl; have hcz93_1 : w92.cell? ⟨gb184, 1, none⟩ = some (.string (t172.extract 0 8)) := (blk_cell BK184.out 1).trans rfl; have hcz93_2 : w92.cell? ⟨gb184, 2, none⟩ = some (.slice Ao87 x185002_2.length co87) := (blk_cell BK184.out 2).trans rfl; have hcz93_3 : w92.cell? ⟨gb184, 3, none⟩ = some (.string (⟨#[]⟩ : ByteArray)) := (blk_cell BK184.out 3).trans rfl; have hfz93_0 := blk_frozen BK184.out 0; have hfz93_1 := blk_frozen BK184.out 1; have hfz93_2 := blk_frozen BK184.out 2; have hfz93_3 := blk_frozen BK184.out 3) | ((with_reducible refine gate_callee (f := 22) rfl ?_); refine goesL_ (some 95) rfl rfl Tryz.func22 (by kernel_rfl) rfl #[.agg #[.string a1, .string (t172.extract 0 8), .slice Ao87 t190.length co87, .string t191]] rfl (by (try simp only [List.map_toArray, List.map_cons, List.map_nil]); first | done | (rw [show t190.length = x185002_2.length from (Kd.R_reads' HO_185002.out).1.symm] <;> rfl) | rfl | (simp only [List.length_drop, List.length_take]; rfl)) ?_; (with_reducible refine (sigv4_right.calls _ _ _ _ _ _ _ _ _ ?side1 ?side2 A58.out).mono ?_); (case side1 => refine (Kd.R_reads' (e := 9) (base := w.heap.size) (ok := fun k_ => True) (n := x185002_2.length) (c := co87) ?_).2.2; exact (by (with_reducible repeat (first | apply Kd.R_alloc | apply Kd.R_drewN | apply Kd.R_drew)); exact (Kd.R_mono (Kd.R_far (p := ⟨gb184, 3, none⟩) (Kd.R_types HO_185002.out BK184.out (by decide)) (fun _ hk => hk.2) (.string t191)) (fun _ h_ => h_.1)))); (case side2 => rw [show t190.length = x185002_2.length from (Kd.R_reads' HO_185002.out).1.symm]; exact (Kd.R_reads' HO_185002.out).2.1); rintro e w94 ⟨rfl, hb⟩; refine ⟨_, rfl, ?_⟩; have n0_ := Aside0.mk (Kd.R_below (by (with_reducible repeat (first | apply Kd.R_alloc | apply Kd.R_drewN | apply Kd.R_drew)); exact (Kd.R_mono (Kd.R_far (p := ⟨gb184, 3, none⟩) (Kd.R_types HO_63.out BK184.out (by decide)) (fun _ hk => hk.2) (.string t191)) (fun _ h_ => h_.1))) hb); have n1_ := Aside0.mk (Kd.R_below (by (with_reducible repeat (first | apply Kd.R_alloc | apply Kd.R_drewN | apply Kd.R_drew)); exact (Kd.R_mono (Kd.R_far (p := ⟨gb184, 3, none⟩) (Kd.R_types HO_171003.out BK184.out (by decide)) (fun _ hk => hk.2) (.string t191)) (fun _ h_ => h_.1))) hb); have n2_ := Aside0.mk (Kd.R_below (by (with_reducible repeat (first | apply Kd.R_alloc | apply Kd.R_drewN | apply Kd.R_drew)); exact (Kd.R_mono (Kd.R_far (p := ⟨gb184, 3, none⟩) (Kd.R_types HO_185002.out BK184.out (by decide)) (fun _ hk => hk.2) (.string t191)) (fun _ h_ => h_.1))) hb); have n3_ := Aside0.mk (blk_below (g := gb170) (o := .cells #[.string a0_0, .string a0_1, .string a0_2, .slice Ao33 y181.length co33, .slice A0_4 l0_4.length c0_4] 44 (0, 0)) (by (with_reducible repeat (first | refine blk_drewN ?_ _ | refine blk_drew ?_ | refine blk_alloc ?_ _)); refine blk_far ?_ NB170_184.out _; (with_reducible repeat (first | refine blk_drewN ?_ _ | refine blk_drew ?_ | refine blk_alloc ?_ _)); exact BK170.out) hb); have n4_ := Aside0.mk (blk_below (g := gb171) (o := .cells #[.string (⟨#[]⟩ : ByteArray), .string (⟨#[]⟩ : ByteArray), .string (⟨#[]⟩ : ByteArray), .slice none 0 0, .slice none 0 0] 44 (0, 0)) (by (with_reducible repeat (first | refine blk_drewN ?_ _ | refine blk_drew ?_ | refine blk_alloc ?_ _)); refine blk_far ?_ NB171_184.out _; (with_reducible repeat (first | refine blk_drewN ?_ _ | refine blk_drew ?_ | refine blk_alloc ?_ _)); exact BK171.out) hb); have n5_ := Aside0.mk (blk_below (g := gb184) (o := .cells #[.string a1, .string (t172.extract 0 8), .slice Ao87 x185002_2.length co87, .string t191] 26 (0, 0)) (by (with_reducible repeat (first | refine blk_drewN ?_ _ | refine blk_drew ?_ | refine blk_alloc ?_ _)); refine blk_put (cs := #[.string a1, .string (t172.extract 0 8), .slice Ao87 x185002_2.length co87, .string (⟨#[]⟩ : ByteArray)]) ?_ 3 _ rfl; (with_reducible repeat (first | refine blk_drewN ?_ _ | refine blk_drew ?_ | refine blk_alloc ?_ _)); exact BK184.out) hb); have n6_ := Aside0.mk (below_step hb5_ hb); clear HO_63; clear HO_171003; clear HO_185002; clear BK170; clear BK171; clear BK184; clear HB; have HO_63 := n0_; have HO_171003 := n1_; have HO_185002 := n2_; have BK170 := n3_; have BK171 := n4_; have BK184 := n5_; have HB := n6_; clear n0_ n1_ n2_ n3_ n4_ n5_ n6_; (try clear hb); (try clear hb2); (try clear hk); (try clear hi); have hcz95_0 : w94.cell? ⟨gb171, 0, none⟩ = some (.string (⟨#[]⟩ : ByteArray)) := (blk_cell BK171.out 0).trans rfl; have hcz95_1 : w94.cell? ⟨gb171, 1, none⟩ = some (.string (⟨#[]⟩ : ByteArray)) := (blk_cell BK171.out 1).trans rfl; have hcz95_2 : w94.cell? ⟨gb171, 2, none⟩ = some (.string (⟨#[]⟩ : ByteArray)) := (blk_cell BK171.out 2).trans rfl; have hcz95_3 : w94.cell? ⟨gb171, 3, none⟩ = some (.slice none 0 0) := (blk_cell BK171.out 3).trans rfl; have hcz95_4 : w94.cell? ⟨gb171, 4, none⟩ = some (.slice none 0 0) := (blk_cell BK171.out 4).trans rfl; have hfz95_0 := blk_frozen BK171.out 0; have hfz95_1 := blk_frozen BK171.out 1; have hfz95_2 := blk_frozen BK171.out 2; have hfz95_3 := blk_frozen BK171.out 3; have hfz95_4 := blk_frozen BK171.out 4))
      refine bodyPost_ret (results_ct rfl _ _ gb171 44 #[.string (⟨#[]⟩ : ByteArray), .string (⟨#[]⟩ : ByteArray), .string (⟨#[]⟩ : ByteArray), .slice none 0 0, .slice none 0 0] (0, 0) _ rfl (by (with_reducible repeat (first | refine blk_drewN ?_ _ | refine blk_drew ?_ | refine blk_alloc ?_ _)); refine blk_put (cs := #[.string (⟨#[]⟩ : ByteArray), .string (⟨#[]⟩ : ByteArray), .string (⟨#[]⟩ : ByteArray), .slice none 0 0, .slice none 0 0]) ?_ 4 _ rfl; (with_reducible repeat (first | refine blk_drewN ?_ _ | refine blk_drew ?_ | refine blk_alloc ?_ _)); refine blk_put (cs := #[.string (⟨#[]⟩ : ByteArray), .string (⟨#[]⟩ : ByteArray), .string (⟨#[]⟩ : ByteArray), .slice none 0 0, .slice none 0 0]) ?_ 3 _ rfl; (with_reducible repeat (first | refine blk_drewN ?_ _ | refine blk_drew ?_ | refine blk_alloc ?_ _)); refine blk_put (cs := #[.string (⟨#[]⟩ : ByteArray), .string (⟨#[]⟩ : ByteArray), .string (⟨#[]⟩ : ByteArray), .slice none 0 0, .slice none 0 0]) ?_ 2 _ rfl; (with_reducible repeat (first | refine blk_drewN ?_ _ | refine blk_drew ?_ | refine blk_alloc ?_ _)); refine blk_put (cs := #[.string (⟨#[]⟩ : ByteArray), .string (⟨#[]⟩ : ByteArray), .string (⟨#[]⟩ : ByteArray), .slice none 0 0, .slice none 0 0]) ?_ 1 _ rfl; (with_reducible repeat (first | refine blk_drewN ?_ _ | refine blk_drew ?_ | refine blk_alloc ?_ _)); refine blk_put (cs := #[.string (⟨#[]⟩ : ByteArray), .string (⟨#[]⟩ : ByteArray), .string (⟨#[]⟩ : ByteArray), .slice none 0 0, .slice none 0 0]) ?_ 0 _ rfl; (with_reducible repeat (first | refine blk_drewN ?_ _ | refine blk_drew ?_ | refine blk_alloc ?_ _)); exact BK171.out) Tryz.underlying44 rfl (by kernel_rfl)) rfl ?_
      exact ⟨_, _, by first | rfl | (simp [errW_none, errW_some] <;> rfl) | (simp [*, errW_none, errW_some] <;> rfl), by first | exact Kd.R_nil _ _ _ _ _ | exact Kd.N_nil _ _ _ _ _ | exact Kd.V_nil _ _ _ _ _ | exact Kd.Q_nil _ _ _ _ _ | exact Kd.S_nil _ _ _ _ _, by first | exact Kd.R_nil _ _ _ _ _ | exact Kd.N_nil _ _ _ _ _ | exact Kd.V_nil _ _ _ _ _ | exact Kd.Q_nil _ _ _ _ _ | exact Kd.S_nil _ _ _ _ _, hb5_⟩
     subst c59
     have H1 : ((sigv4_ShowAuth.f a1 (t172.extract 0 8) t190 t191).bind fun t194 => (if y181.length < 4398046511104 then ((slices_Clone_byte_byte.f l0_4).bind fun t198 => (some (a0_0, a0_1, a0_2, (y181 ++ [(⟨(⟨#[97, 117, 116, 104, 111, 114, 105, 122, 97, 116, 105, 111, 110]⟩ : ByteArray), t194⟩ : S55)]), t198, 0))) else (none))) = some (r1, r2, r3, r4, r5, r6) := by rw [if_pos rfl] at H; exact H
     clear H
     have H := H1
     clear H1
     replace H := Option.bind_eq_some_iff.mp H
     obtain ⟨t194, A600, H⟩ := H
     replace H : (if y181.length < 4398046511104 then ((slices_Clone_byte_byte.f l0_4).bind fun t198 => (some (a0_0, a0_1, a0_2, (y181 ++ [(⟨(⟨#[97, 117, 116, 104, 111, 114, 105, 122, 97, 116, 105, 111, 110]⟩ : ByteArray), t194⟩ : S55)]), t198, 0))) else (none)) = some (r1, r2, r3, r4, r5, r6) := H
     have A60 := Aside0.mk A600
     clear A600
     by_cases c61 : y181.length < 4398046511104
     rotate_left
     ·rw [if_neg c61] at H
      exact absurd H (by simp)
     rw [if_pos c61] at H
     have LMc61 := Aside0.mk c61
     clear c61
     obtain ⟨y195, hy195⟩ : ∃ y_ : List (S55), y_ = (y181 ++ [(⟨(⟨#[97, 117, 116, 104, 111, 114, 105, 122, 97, 116, 105, 111, 110]⟩ : ByteArray), t194⟩ : S55)]) := ⟨_, rfl⟩
     replace H : ((slices_Clone_byte_byte.f l0_4).bind fun t198 => (some (a0_0, a0_1, a0_2, y195, t198, 0))) = some (r1, r2, r3, r4, r5, r6) := by first | (rw [hy195]; with_reducible exact H) | (have H2_ := (Option.bind_some _ _).symm.trans H; rw [hy195]; with_reducible exact H2_) | (have H2_ := (Option.bind_some _ _).symm.trans H; with_reducible exact H2_) | with_reducible exact H | (rw [hy195]; exact H) | exact H
     have Ny195 := Aside0.mk hy195
     clear hy195
     replace H := Option.bind_eq_some_iff.mp H
     obtain ⟨t198, A620, H⟩ := H
     replace H : (some (a0_0, a0_1, a0_2, y195, t198, 0)) = some (r1, r2, r3, r4, r5, r6) := H
     have A62 := Aside0.mk A620
     clear A620
     simp only [Option.some.injEq, Prod.mk.injEq] at H
     obtain ⟨rfl, rfl, rfl, rfl, rfl, rfl⟩ := H
     have hnb63 := NB184_170.out
     have hnc63 := NB170_184.out
     have hnb64 := NB184_171.out
     have hnc64 := NB171_184.out
     have hcz65_0 : wr.cell? ⟨gb184, 0, none⟩ = some (.string a1) := (blk_cell BK184.out 0).trans rfl
     have hcz65_1 : wr.cell? ⟨gb184, 1, none⟩ = some (.string (t172.extract 0 8)) := (blk_cell BK184.out 1).trans rfl
     have hcz65_2 : wr.cell? ⟨gb184, 2, none⟩ = some (u185002) := (blk_cell BK184.out 2).trans rfl
     have hcz65_3 : wr.cell? ⟨gb184, 3, none⟩ = some (.string (⟨#[]⟩ : ByteArray)) := (blk_cell BK184.out 3).trans rfl
     have hfz65_0 := blk_frozen BK184.out 0
     have hfz65_1 := blk_frozen BK184.out 1
     have hfz65_2 := blk_frozen BK184.out 2
     have hfz65_3 := blk_frozen BK184.out 3
     obtain ⟨Ao66, co66, eo66⟩ := Kd.R_slice HO_185002.out
     subst eo66
     try go_wp2_with (first | ((with_reducible refine gate_callee (f := 32) rfl ?_); refine goesL_ (some 79) rfl rfl Tryz.func32 (by kernel_rfl) rfl #[.slice Ao66 x185002_2.length co66] rfl (by (try simp only [List.map_toArray, List.map_cons, List.map_nil]); first | done | rfl | (simp only [List.length_drop, List.length_take]; rfl)) ?_; (with_reducible refine (slices_Sort_string_string.calls (fun k_ => some k_ = (.slice Ao66 x185002_2.length co66 : Value).ownBlock) (.slice Ao66 x185002_2.length co66) x185002_2 t190 w _ ?side1 ?side2 A55.out).mono ?_); (case side1 => repeat (first | (with_reducible first | exact HB.out | apply below_alloc | apply pw_below_drewN | apply below_drew1 | refine below_set ?_ GE170.out | refine below_set ?_ GE171.out | refine below_set ?_ GE184.out) | exact HB.out)); (case side2 => exact Kd.R_tight rfl HO_185002.out); rintro e w67 ⟨rfl, hy0, hb, hkp⟩; refine ⟨_, rfl, ?_⟩; have n0_ := Aside0.mk (Kd.R_mono (ok' := fun k_ => True) (Kd.R_keptB ((Kd.R_apart' HO_63.out (Kd.R_typed HO_185002.out) (by decide))) hkp (fun k_ hk_ hs_ => (hk_.2) hs_)) (fun k_ hk_ => trivial)); have n1_ := Aside0.mk (Kd.R_mono (ok' := fun k_ => True) (Kd.R_keptB ((Kd.R_apart' HO_171003.out (Kd.R_typed HO_185002.out) (by decide))) hkp (fun k_ hk_ hs_ => (hk_.2) hs_)) (fun k_ hk_ => trivial)); have n2_ := Aside0.mk (Kd.R_reok rfl hy0 (fun k_ e_ => HO_185002.out.1 k_ e_)); have n3_ := Aside0.mk (blk_kept (by (with_reducible repeat (first | refine blk_drewN ?_ _ | refine blk_drew ?_ | refine blk_alloc ?_ _)); exact BK170.out) hkp (fun hs_ => (fun e_ => (Kd.R_ne HO_185002.out BK170.out (by decide)) e_) hs_)); have n4_ := Aside0.mk (blk_kept (by (with_reducible repeat (first | refine blk_drewN ?_ _ | refine blk_drew ?_ | refine blk_alloc ?_ _)); exact BK171.out) hkp (fun hs_ => (fun e_ => (Kd.R_ne HO_185002.out BK171.out (by decide)) e_) hs_)); have n5_ := Aside0.mk (blk_kept (by (with_reducible repeat (first | refine blk_drewN ?_ _ | refine blk_drew ?_ | refine blk_alloc ?_ _)); exact BK184.out) hkp (fun hs_ => (fun e_ => (Kd.R_ne HO_185002.out BK184.out (by decide)) e_) hs_)); have n6_ := Aside0.mk (hb); clear HO_63; clear HO_171003; clear HO_185002; clear BK170; clear BK171; clear BK184; clear HB; have HO_63 := n0_; have HO_171003 := n1_; have HO_185002 := n2_; have BK170 := n3_; have BK171 := n4_; have BK184 := n5_; have HB := n6_; clear n0_ n1_ n2_ n3_ n4_ n5_ n6_; (try clear hb); (try clear hkp); (try clear hy0); have hnb68 := NB170_171.out; have hnc68 := NB171_170.out; have hcz69_0 : w67.cell? ⟨gb170, 0, none⟩ = some (.string a0_0) := (blk_cell BK170.out 0).trans rfl; have hcz69_1 : w67.cell? ⟨gb170, 1, none⟩ = some (.string a0_1) := (blk_cell BK170.out 1).trans rfl; have hcz69_2 : w67.cell? ⟨gb170, 2, none⟩ = some (.string a0_2) := (blk_cell BK170.out 2).trans rfl; have hcz69_3 : w67.cell? ⟨gb170, 3, none⟩ = some (.slice Ao33 y181.length co33) := (blk_cell BK170.out 3).trans rfl; have hcz69_4 : w67.cell? ⟨gb170, 4, none⟩ = some (.slice A0_4 l0_4.length c0_4) := (blk_cell BK170.out 4).trans rfl; have hfz69_0 := blk_frozen BK170.out 0; have hfz69_1 := blk_frozen BK170.out 1; have hfz69_2 := blk_frozen BK170.out 2; have hfz69_3 := blk_frozen BK170.out 3; have hfz69_4 := blk_frozen BK170.out 4; have hcz70_0 : w67.cell? ⟨gb184, 0, none⟩ = some (.string a1) := (blk_cell BK184.out 0).trans rfl; have hcz70_1 : w67.cell? ⟨gb184, 1, none⟩ = some (.string (t172.extract 0 8)) := (blk_cell BK184.out 1).trans rfl; have hcz70_2 : w67.cell? ⟨gb184, 2, none⟩ = some (.slice Ao66 x185002_2.length co66) := (blk_cell BK184.out 2).trans rfl; have hcz70_3 : w67.cell? ⟨gb184, 3, none⟩ = some (.string (⟨#[]⟩ : ByteArray)) := (blk_cell BK184.out 3).trans rfl; have hfz70_0 := blk_frozen BK184.out 0; have hfz70_1 := blk_frozen BK184.out 1; have hfz70_2 := blk_frozen BK184.out 2; have hfz70_3 := blk_frozen BK184.out 3) | ((with_reducible refine gate_callee (f := 33) rfl ?_); refine goesL_ (some 86) rfl rfl Tryz.func33 (by kernel_rfl) rfl #[.string a2, .agg #[.string a0_0, .string a0_1, .string a0_2, .slice Ao33 y181.length co33, .slice A0_4 l0_4.length c0_4], .slice Ao66 t190.length co66, .int .u64 a3] rfl (by (try simp only [List.map_toArray, List.map_cons, List.map_nil]); first | done | (rw [show t190.length = x185002_2.length from (Kd.R_reads' HO_185002.out).1.symm] <;> rfl) | rfl | (simp only [List.length_drop, List.length_take]; rfl)) ?_; (with_reducible refine (sigv4_Sign.calls _ _ _ _ _ _ _ _ _ _ _ _ _ _ _ _ _ _ ?side1 ?side2 ?side3 ?side4 ?side5 ?side6 A56.out).mono ?_); (case side1 => repeat (first | exact (Kd.R_reads' HO_171003.out).2.2 | (with_reducible refine Kd.C_alloc ?_ _) | (with_reducible refine Kd.C_drewN ?_ _) | (with_reducible refine Kd.C_drew ?_))); (case side2 => exact (Kd.R_reads' HO_171003.out).2.1); (case side3 => repeat (first | exact (Kd.C_below HR0_4.out HB.out) | (with_reducible refine Kd.C_alloc ?_ _) | (with_reducible refine Kd.C_drewN ?_ _) | (with_reducible refine Kd.C_drew ?_))); (case side4 => exact HC0_4.out); (case side5 => repeat (first | exact (Kd.R_reads' HO_185002.out).2.2 | (with_reducible refine Kd.C_alloc ?_ _) | (with_reducible refine Kd.C_drewN ?_ _) | (with_reducible refine Kd.C_drew ?_))); (case side6 => rw [show t190.length = x185002_2.length from (Kd.R_reads' HO_185002.out).1.symm]; exact (Kd.R_reads' HO_185002.out).2.1); rintro e w71 ⟨rfl, hb⟩; refine ⟨_, rfl, ?_⟩; have n0_ := Aside0.mk (Kd.R_below (by (with_reducible repeat (first | apply Kd.R_alloc | apply Kd.R_drewN | apply Kd.R_drew)); exact HO_63.out) hb); have n1_ := Aside0.mk (Kd.R_below (by (with_reducible repeat (first | apply Kd.R_alloc | apply Kd.R_drewN | apply Kd.R_drew)); exact HO_171003.out) hb); have n2_ := Aside0.mk (Kd.R_below (by (with_reducible repeat (first | apply Kd.R_alloc | apply Kd.R_drewN | apply Kd.R_drew)); exact HO_185002.out) hb); have n3_ := Aside0.mk (blk_below (g := gb170) (o := .cells #[.string a0_0, .string a0_1, .string a0_2, .slice Ao33 y181.length co33, .slice A0_4 l0_4.length c0_4] 44 (0, 0)) (by (with_reducible repeat (first | refine blk_drewN ?_ _ | refine blk_drew ?_ | refine blk_alloc ?_ _)); exact BK170.out) hb); have n4_ := Aside0.mk (blk_below (g := gb171) (o := .cells #[.string (⟨#[]⟩ : ByteArray), .string (⟨#[]⟩ : ByteArray), .string (⟨#[]⟩ : ByteArray), .slice none 0 0, .slice none 0 0] 44 (0, 0)) (by (with_reducible repeat (first | refine blk_drewN ?_ _ | refine blk_drew ?_ | refine blk_alloc ?_ _)); exact BK171.out) hb); have n5_ := Aside0.mk (blk_below (g := gb184) (o := .cells #[.string a1, .string (t172.extract 0 8), .slice Ao66 x185002_2.length co66, .string (⟨#[]⟩ : ByteArray)] 26 (0, 0)) (by (with_reducible repeat (first | refine blk_drewN ?_ _ | refine blk_drew ?_ | refine blk_alloc ?_ _)); exact BK184.out) hb); have n6_ := Aside0.mk (below_step hb5_ hb); clear HO_63; clear HO_171003; clear HO_185002; clear BK170; clear BK171; clear BK184; clear HB; have HO_63 := n0_; have HO_171003 := n1_; have HO_185002 := n2_; have BK170 := n3_; have BK171 := n4_; have BK184 := n5_; have HB := n6_; clear n0_ n1_ n2_ n3_ n4_ n5_ n6_; (try clear hb); (try clear hb2); (try clear hk); (try clear hi); have hcz72_0 : w71.cell? ⟨gb184, 0, none⟩ = some (.string a1) := (blk_cell BK184.out 0).trans rfl; have hcz72_1 : w71.cell? ⟨gb184, 1, none⟩ = some (.string (t172.extract 0 8)) := (blk_cell BK184.out 1).trans rfl; have hcz72_2 : w71.cell? ⟨gb184, 2, none⟩ = some (.slice Ao66 x185002_2.length co66) := (blk_cell BK184.out 2).trans rfl; have hcz72_3 : w71.cell? ⟨gb184, 3, none⟩ = some (.string (⟨#[]⟩ : ByteArray)) := (blk_cell BK184.out 3).trans rfl; have hfz72_0 := blk_frozen BK184.out 0; have hfz72_1 := blk_frozen BK184.out 1; have hfz72_2 := blk_frozen BK184.out 2; have hfz72_3 := blk_frozen BK184.out 3) | ((with_reducible refine gate_callee (f := 22) rfl ?_); refine goesL_ (some 95) rfl rfl Tryz.func22 (by kernel_rfl) rfl #[.agg #[.string a1, .string (t172.extract 0 8), .slice Ao66 t190.length co66, .string t191]] rfl (by (try simp only [List.map_toArray, List.map_cons, List.map_nil]); first | done | (rw [show t190.length = x185002_2.length from (Kd.R_reads' HO_185002.out).1.symm] <;> rfl) | rfl | (simp only [List.length_drop, List.length_take]; rfl)) ?_; (with_reducible refine (sigv4_right.calls _ _ _ _ _ _ _ _ _ ?side1 ?side2 A58.out).mono ?_); (case side1 => refine (Kd.R_reads' (e := 9) (base := w.heap.size) (ok := fun k_ => True) (n := x185002_2.length) (c := co66) ?_).2.2; exact (by (with_reducible repeat (first | apply Kd.R_alloc | apply Kd.R_drewN | apply Kd.R_drew)); exact (Kd.R_mono (Kd.R_far (p := ⟨gb184, 3, none⟩) (Kd.R_types HO_185002.out BK184.out (by decide)) (fun _ hk => hk.2) (.string t191)) (fun _ h_ => h_.1)))); (case side2 => rw [show t190.length = x185002_2.length from (Kd.R_reads' HO_185002.out).1.symm]; exact (Kd.R_reads' HO_185002.out).2.1); rintro e w73 ⟨rfl, hb⟩; refine ⟨_, rfl, ?_⟩; have n0_ := Aside0.mk (Kd.R_below (by (with_reducible repeat (first | apply Kd.R_alloc | apply Kd.R_drewN | apply Kd.R_drew)); exact (Kd.R_mono (Kd.R_far (p := ⟨gb184, 3, none⟩) (Kd.R_types HO_63.out BK184.out (by decide)) (fun _ hk => hk.2) (.string t191)) (fun _ h_ => h_.1))) hb); have n1_ := Aside0.mk (Kd.R_below (by (with_reducible repeat (first | apply Kd.R_alloc | apply Kd.R_drewN | apply Kd.R_drew)); exact (Kd.R_mono (Kd.R_far (p := ⟨gb184, 3, none⟩) (Kd.R_types HO_171003.out BK184.out (by decide)) (fun _ hk => hk.2) (.string t191)) (fun _ h_ => h_.1))) hb); have n2_ := Aside0.mk (Kd.R_below (by (with_reducible repeat (first | apply Kd.R_alloc | apply Kd.R_drewN | apply Kd.R_drew)); exact (Kd.R_mono (Kd.R_far (p := ⟨gb184, 3, none⟩) (Kd.R_types HO_185002.out BK184.out (by decide)) (fun _ hk => hk.2) (.string t191)) (fun _ h_ => h_.1))) hb); have n3_ := Aside0.mk (blk_below (g := gb170) (o := .cells #[.string a0_0, .string a0_1, .string a0_2, .slice Ao33 y181.length co33, .slice A0_4 l0_4.length c0_4] 44 (0, 0)) (by (with_reducible repeat (first | refine blk_drewN ?_ _ | refine blk_drew ?_ | refine blk_alloc ?_ _)); refine blk_far ?_ NB170_184.out _; (with_reducible repeat (first | refine blk_drewN ?_ _ | refine blk_drew ?_ | refine blk_alloc ?_ _)); exact BK170.out) hb); have n4_ := Aside0.mk (blk_below (g := gb171) (o := .cells #[.string (⟨#[]⟩ : ByteArray), .string (⟨#[]⟩ : ByteArray), .string (⟨#[]⟩ : ByteArray), .slice none 0 0, .slice none 0 0] 44 (0, 0)) (by (with_reducible repeat (first | refine blk_drewN ?_ _ | refine blk_drew ?_ | refine blk_alloc ?_ _)); refine blk_far ?_ NB171_184.out _; (with_reducible repeat (first | refine blk_drewN ?_ _ | refine blk_drew ?_ | refine blk_alloc ?_ _)); exact BK171.out) hb); have n5_ := Aside0.mk (blk_below (g := gb184) (o := .cells #[.string a1, .string (t172.extract 0 8), .slice Ao66 x185002_2.length co66, .string t191] 26 (0, 0)) (by (with_reducible repeat (first | refine blk_drewN ?_ _ | refine blk_drew ?_ | refine blk_alloc ?_ _)); refine blk_put (cs := #[.string a1, .string (t172.extract 0 8), .slice Ao66 x185002_2.length co66, .string (⟨#[]⟩ : ByteArray)]) ?_ 3 _ rfl; (with_reducible repeat (first | refine blk_drewN ?_ _ | refine blk_drew ?_ | refine blk_alloc ?_ _)); exact BK184.out) hb); have n6_ := Aside0.mk (below_step hb5_ hb); clear HO_63; clear HO_171003; clear HO_185002; clear BK170; clear BK171; clear BK184; clear HB; have HO_63 := n0_; have HO_171003 := n1_; have HO_185002 := n2_; have BK170 := n3_; have BK171 := n4_; have BK184 := n5_; have HB := n6_; clear n0_ n1_ n2_ n3_ n4_ n5_ n6_; (try clear hb); (try clear hb2); (try clear hk); (try clear hi)))
     have n0_ := Aside0.mk (Kd.R_drew HO_63.out)
     have n1_ := Aside0.mk (Kd.R_drew HO_171003.out)
     have n2_ := Aside0.mk (Kd.R_drew HO_185002.out)
     have n3_ := Aside0.mk (blk_drew BK170.out)
     have n4_ := Aside0.mk (blk_drew BK171.out)
     have n5_ := Aside0.mk (blk_drew BK184.out)
     have n6_ := Aside0.mk (below_drew1 HB.out)
     clear HO_63
     clear HO_171003
     clear HO_185002
     clear BK170
     clear BK171
     clear BK184
     clear HB
     have HO_63 := n0_
     have HO_171003 := n1_
     have HO_185002 := n2_
     have BK170 := n3_
     have BK171 := n4_
     have BK184 := n5_
     have HB := n6_
     clear n0_ n1_ n2_ n3_ n4_ n5_ n6_
     refine start_ (n := 9) (S := fun w' => w'.cell? ⟨gb170, 0, none⟩ = some (.string a0_0) ∧ w'.cell? ⟨gb170, 1, none⟩ = some (.string a0_1) ∧ w'.cell? ⟨gb170, 2, none⟩ = some (.string a0_2) ∧ w'.cell? ⟨gb170, 3, none⟩ = some (.slice Ao33 y181.length co33) ∧ w'.cell? ⟨gb170, 4, none⟩ = some (.slice A0_4 l0_4.length c0_4) ∧ w'.cell? ⟨gb184, 0, none⟩ = some (.string a1) ∧ w'.cell? ⟨gb184, 1, none⟩ = some (.string (t172.extract 0 8)) ∧ w'.cell? ⟨gb184, 2, none⟩ = some (.slice Ao66 x185002_2.length co66) ∧ w'.cell? ⟨gb184, 3, none⟩ = some (.string t191)) (ds := [8]) (fl_ 0 9) (by kernel_rfl) rfl rfl ⟨(blk_cell BK170.out 0).trans rfl, (blk_cell BK170.out 1).trans rfl, (blk_cell BK170.out 2).trans rfl, (blk_cell BK170.out 3).trans rfl, (blk_cell BK170.out 4).trans rfl, (blk_cell BK184.out 0).trans rfl, (blk_cell BK184.out 1).trans rfl, (blk_cell BK184.out 2).trans rfl, (blk_cell BK184.out 3).trans rfl⟩ (fun hHeld => ?_); refine with_tabW sigv4_Attach.tab21 sigv4_Attach.bits21 (fun HT_ HW_ => ?_)
     generalize w73.drew = w74 at HO_63 HO_171003 HO_185002 BK170 BK171 BK184 HB hHeld ⊢
     refine puw_ 0 98 1 9 HT_.out (h := ?_)
     refine take_ (i := 1) (N := some 99) (v := ?_) (a' := ?_) (fl_ 2 9) rfl rfl (take_ofW HT_.out HW_.out (by kernel_rfl)) (fun _ _ _ h => h) (Or.inl ⟨by rfl, ?_⟩) hHeld ?_ ?_
     rotate_left
     ·rintro w' ⟨s0, s1, s2, s3, s4, s5, s6, s7, s8⟩
      go_simp
      with_reducible rfl
     rotate_left
     ·simp only [Act.put, spx_]
      rfl
     refine take_ (i := 2) (N := some 100) (v := ?_) (a' := ?_) (fl_ 3 9) rfl rfl (take_ofW HT_.out HW_.out (by kernel_rfl)) (fun _ _ _ h => h) (Or.inl ⟨by rfl, ?_⟩) hHeld ?_ ?_
     rotate_left
     ·rintro w' ⟨s0, s1, s2, s3, s4, s5, s6, s7, s8⟩
      go_simp
      with_reducible rfl
     rotate_left
     ·simp only [Act.put, spx_]
      rfl
     refine one_ (i := 3) (N := some 101) (fl_ 4 9) rfl rfl (one_of HT_.out (by kernel_rfl)) (by decide) (fun K hK => ?_)
     refine goes_ Tryz.func10 (by kernel_rfl) rfl #[.agg #[.string a1, .string (t172.extract 0 8), .slice Ao66 t190.length co66, .string t191]] (by rfl) rfl rfl (by (try simp only [List.map_toArray, List.map_cons, List.map_nil]); first | done | (rw [show t190.length = x185002_2.length from (Kd.R_reads' HO_185002.out).1.symm] <;> rfl) | rfl | (simp only [List.length_drop, List.length_take]; rfl)) ?_
     with_reducible refine (sigv4_ShowAuth.calls a1 (t172.extract 0 8) _ _ t190 t191 t194 _ ?side1 ?side2 A60.out).mono ?_
     (case side1 => repeat (first | exact (Kd.R_reads' HO_185002.out).2.2 | (with_reducible refine Kd.C_alloc ?_ _) | (with_reducible refine Kd.C_drewN ?_ _) | (with_reducible refine Kd.C_drew ?_)))
     (case side2 => rw [show t190.length = x185002_2.length from (Kd.R_reads' HO_185002.out).1.symm]; exact (Kd.R_reads' HO_185002.out).2.1)
     rintro e w75 ⟨rfl, hb⟩
     refine ⟨_, rfl, ?_⟩
     have n0_ := Aside0.mk (Kd.R_below (by (with_reducible repeat (first | apply Kd.R_alloc | apply Kd.R_drewN | apply Kd.R_drew)); exact HO_63.out) hb)
     have n1_ := Aside0.mk (Kd.R_below (by (with_reducible repeat (first | apply Kd.R_alloc | apply Kd.R_drewN | apply Kd.R_drew)); exact HO_171003.out) hb)
     have n2_ := Aside0.mk (Kd.R_below (by (with_reducible repeat (first | apply Kd.R_alloc | apply Kd.R_drewN | apply Kd.R_drew)); exact HO_185002.out) hb)
     have n3_ := Aside0.mk (blk_below (g := gb170) (o := .cells #[.string a0_0, .string a0_1, .string a0_2, .slice Ao33 y181.length co33, .slice A0_4 l0_4.length c0_4] 44 (0, 0)) (by (with_reducible repeat (first | refine blk_drewN ?_ _ | refine blk_drew ?_ | refine blk_alloc ?_ _)); exact BK170.out) hb)
     have n4_ := Aside0.mk (blk_below (g := gb171) (o := .cells #[.string (⟨#[]⟩ : ByteArray), .string (⟨#[]⟩ : ByteArray), .string (⟨#[]⟩ : ByteArray), .slice none 0 0, .slice none 0 0] 44 (0, 0)) (by (with_reducible repeat (first | refine blk_drewN ?_ _ | refine blk_drew ?_ | refine blk_alloc ?_ _)); exact BK171.out) hb)
     have n5_ := Aside0.mk (blk_below (g := gb184) (o := .cells #[.string a1, .string (t172.extract 0 8), .slice Ao66 x185002_2.length co66, .string t191] 26 (0, 0)) (by (with_reducible repeat (first | refine blk_drewN ?_ _ | refine blk_drew ?_ | refine blk_alloc ?_ _)); exact BK184.out) hb)
     have n6_ := Aside0.mk (below_step hb5_ hb)
     clear HO_63
     clear HO_171003
     clear HO_185002
     clear BK170
     clear BK171
     clear BK184
     clear HB
     have HO_63 := n0_
     have HO_171003 := n1_
     have HO_185002 := n2_
     have BK170 := n3_
     have BK171 := n4_
     have BK184 := n5_
     have HB := n6_
     clear n0_ n1_ n2_ n3_ n4_ n5_ n6_
     (try clear hb)
     (try clear hb2)
     (try clear hk)
     (try clear hi)
     refine hK.out _ _ ⟨(blk_cell BK170.out 0).trans rfl, (blk_cell BK170.out 1).trans rfl, (blk_cell BK170.out 2).trans rfl, (blk_cell BK170.out 3).trans rfl, (blk_cell BK170.out 4).trans rfl, (blk_cell BK184.out 0).trans rfl, (blk_cell BK184.out 1).trans rfl, (blk_cell BK184.out 2).trans rfl, (blk_cell BK184.out 3).trans rfl⟩ (fun hHeld => ?_)
     clear hK K
     refine norm_ (a' := ?_) ?_ ?_
     rotate_left
     ·show Act.put _ (some 101) _ = _
      simp only [Act.put, spx_]
      rfl
     refine puw_ 4 102 5 9 HT_.out (h := ?_)
     refine one_ (i := 5) (N := some 103) (fl_ 6 9) rfl rfl (one_of HT_.out (by kernel_rfl)) (by decide) (fun K hK => ?_)
     refine value_ (w1 := ?_) (v := ?_) (by rfl) rfl ?_ ?_
     rotate_left 2
     ·go_simp
      constructor
      ·rfl
      ·rfl
     refine hK.out _ _ ⟨(blk_cell (blk_alloc BK170.out _) 0).trans rfl, (blk_cell (blk_alloc BK170.out _) 1).trans rfl, (blk_cell (blk_alloc BK170.out _) 2).trans rfl, (blk_cell (blk_alloc BK170.out _) 3).trans rfl, (blk_cell (blk_alloc BK170.out _) 4).trans rfl, (blk_cell (blk_alloc BK184.out _) 0).trans rfl, (blk_cell (blk_alloc BK184.out _) 1).trans rfl, (blk_cell (blk_alloc BK184.out _) 2).trans rfl, (blk_cell (blk_alloc BK184.out _) 3).trans rfl⟩ (fun hHeld => ?_)
     clear hK K
     refine norm_ (a' := ?_) ?_ ?_
     rotate_left
     ·show Act.put _ (some 103) _ = _
      simp only [Act.put, spx_]
      rfl
     refine one_ (i := 6) (N := some 104) (fl_ 7 9) rfl rfl (one_of HT_.out (by kernel_rfl)) (by decide) (fun K hK => ?_)
     refine Kd.R_append_step k55 (w0 := w) w.heap.size (by rfl) (.tmp 99) (.tmp 103) 42 55 (.agg #[(.string ⟨#[]⟩), (.string ⟨#[]⟩)]) 32 rfl Tryz.underlying42 info55 rfl (by decide) (by omega) (.slice Ao33 y181.length co33) y181 (⟨(⟨#[97, 117, 116, 104, 111, 114, 105, 122, 97, 116, 105, 111, 110]⟩ : ByteArray), t194⟩ : S55) [.string (⟨#[97, 117, 116, 104, 111, 114, 105, 122, 97, 116, 105, 111, 110]⟩ : ByteArray), .string t194] (fun _ => True) (fun _ => False) rfl rfl ?aP (fun _ hk => hk.elim) ?aF ?aO ?aB ?aS ?aL ?_
     (case aP => exact k55_mkM _ _ _ (⟨(⟨#[97, 117, 116, 104, 111, 114, 105, 122, 97, 116, 105, 111, 110]⟩ : ByteArray), t194⟩ : S55))
     (case aB => exact hb5_)
     (case aF => exact (fun _ _ => trivial))
     (case aO => exact (by (with_reducible repeat (first | apply Kd.R_alloc | apply Kd.R_drewN | apply Kd.R_drew)); exact HO_171003.out))
     (case aS => exact (below_size hb5_))
     (case aL => have := LMc61.out; omega)
     intro v196 w76 ho hb hg hat
     rw [← Ny195.out] at ho
     have n0_ := Aside0.mk (Kd.R_over' (by (with_reducible repeat (first | apply Kd.R_alloc | apply Kd.R_drewN | apply Kd.R_drew)); exact HO_185002.out) (Kd.R_typed (by (with_reducible repeat (first | apply Kd.R_alloc | apply Kd.R_drewN | apply Kd.R_drew)); exact HO_171003.out)) (by decide) hg)
     have n1_ := Aside0.mk (blk_grown (g := gb170) (o := .cells #[.string a0_0, .string a0_1, .string a0_2, .slice Ao33 y181.length co33, .slice A0_4 l0_4.length c0_4] 44 (0, 0)) (by (with_reducible repeat (first | refine blk_drewN ?_ _ | refine blk_drew ?_ | refine blk_alloc ?_ _)); exact BK170.out) hg (Kd.R_ne HO_171003.out BK170.out (by decide)))
     have n2_ := Aside0.mk (blk_grown (g := gb171) (o := .cells #[.string (⟨#[]⟩ : ByteArray), .string (⟨#[]⟩ : ByteArray), .string (⟨#[]⟩ : ByteArray), .slice none 0 0, .slice none 0 0] 44 (0, 0)) (by (with_reducible repeat (first | refine blk_drewN ?_ _ | refine blk_drew ?_ | refine blk_alloc ?_ _)); exact BK171.out) hg (Kd.R_ne HO_171003.out BK171.out (by decide)))
     have n3_ := Aside0.mk (blk_grown (g := gb184) (o := .cells #[.string a1, .string (t172.extract 0 8), .slice Ao66 x185002_2.length co66, .string t191] 26 (0, 0)) (by (with_reducible repeat (first | refine blk_drewN ?_ _ | refine blk_drew ?_ | refine blk_alloc ?_ _)); exact BK184.out) hg (Kd.R_ne HO_171003.out BK184.out (by decide)))
     have n4_ := Aside0.mk (hb)
     have n5_ := Aside0.mk (ho)
     clear HO_185002
     clear BK170
     clear BK171
     clear BK184
     clear HB
     clear HO_171003
     have HO_185002 := n0_
     have BK170 := n1_
     have BK171 := n2_
     have BK184 := n3_
     have HB := n4_
     have HO197 := n5_
     clear n0_ n1_ n2_ n3_ n4_ n5_
     clear ho hb hg hat
     obtain ⟨Ao77, co77, eo77⟩ := Kd.R_slice HO197.out
     (first | subst eo77 | (injection eo77 with f1_ f2_ f3_; have f4_ := f1_.symm; have f5_ := f3_.symm; clear f1_ f2_ f3_; subst f4_; subst f5_))
     refine hK.out _ _ ⟨(blk_cell BK170.out 0).trans rfl, (blk_cell BK170.out 1).trans rfl, (blk_cell BK170.out 2).trans rfl, (blk_cell BK170.out 3).trans rfl, (blk_cell BK170.out 4).trans rfl, (blk_cell BK184.out 0).trans rfl, (blk_cell BK184.out 1).trans rfl, (blk_cell BK184.out 2).trans rfl, (blk_cell BK184.out 3).trans rfl⟩ (fun hHeld => ?_)
     clear hK K
     refine norm_ (a' := ?_) ?_ ?_
     rotate_left
     ·show Act.put _ (some 104) _ = _
      simp only [Act.put, spx_]
      rfl
     refine puw_ 7 105 8 9 HT_.out (h := ?_)
     refine last_ (i := 8) (N := none) (fl_ 9 9) rfl rfl (one_of HT_.out (by kernel_rfl)) (by decide) (fun K hK => ?_)
     have hs78 : w76.cell? ⟨gb170, 3, none⟩ = some (.slice Ao33 y181.length co33) := (blk_cell BK170.out 3).trans rfl
     have hfs78 := blk_frozen BK170.out 3
     have hns78_1 := NB171_170.out
     have hns78_2 := NB184_170.out
     have hms78_1 := NB170_171.out
     have hms78_2 := NB170_184.out
     refine skip_ (w1 := ?_) (by rfl) rfl ?_ ?_
     rotate_left
     ·go_simp
      rfl
     refine hK.out _ _ ?_
     clear hK K
     refine done_ (done_of HT_.out (by kernel_rfl)) ?_
     have hcz79_0 : w76.cell? ⟨gb170, 0, none⟩ = some (.string a0_0) := (blk_cell BK170.out 0).trans rfl
     have hcz79_1 : w76.cell? ⟨gb170, 1, none⟩ = some (.string a0_1) := (blk_cell BK170.out 1).trans rfl
     have hcz79_2 : w76.cell? ⟨gb170, 2, none⟩ = some (.string a0_2) := (blk_cell BK170.out 2).trans rfl
     have hcz79_3 : w76.cell? ⟨gb170, 3, none⟩ = some (.slice Ao33 y181.length co33) := (blk_cell BK170.out 3).trans rfl
     have hcz79_4 : w76.cell? ⟨gb170, 4, none⟩ = some (.slice A0_4 l0_4.length c0_4) := (blk_cell BK170.out 4).trans rfl
     have hfz79_0 := blk_frozen BK170.out 0
     have hfz79_1 := blk_frozen BK170.out 1
     have hfz79_2 := blk_frozen BK170.out 2
     have hfz79_3 := blk_frozen BK170.out 3
     have hfz79_4 := blk_frozen BK170.out 4
     try go_wp2_with (first | ((with_reducible refine gate_callee (f := 34) rfl ?_); refine goesL_ (some 108) rfl rfl Tryz.func34 (by kernel_rfl) rfl #[.slice A0_4 l0_4.length c0_4] rfl (by (try simp only [List.map_toArray, List.map_cons, List.map_nil]); first | done | rfl | (simp only [List.length_drop, List.length_take]; rfl)) ?_; (with_reducible refine (slices_Clone_byte_byte.calls _ _ l0_4 t198 _ ?side1 ?side2 A62.out).mono ?_); (case side1 => exact Kd.C_below HR0_4.out hb5_); (case side2 => exact HC0_4.out); rintro e w80 ⟨v199, rfl, ho0, hb⟩; refine ⟨_, rfl, ?_⟩; have n0_ := Aside0.mk (Kd.R_below (by (with_reducible repeat (first | apply Kd.R_alloc | apply Kd.R_drewN | apply Kd.R_drew)); exact (Kd.R_mono (Kd.R_far (p := ⟨gb170, 3, none⟩) (Kd.R_types HO_185002.out BK170.out (by decide)) (fun _ hk => hk.2) (.slice Ao77 y195.length co77)) (fun _ h_ => h_.1))) hb); have n1_ := Aside0.mk (Kd.R_below (by (with_reducible repeat (first | apply Kd.R_alloc | apply Kd.R_drewN | apply Kd.R_drew)); exact (Kd.R_mono (Kd.R_far (p := ⟨gb170, 3, none⟩) (Kd.R_types HO197.out BK170.out (by decide)) (fun _ hk => hk.2) (.slice Ao77 y195.length co77)) (fun _ h_ => h_.1))) hb); have n2_ := Aside0.mk (Kd.R_lower ho0 (below_size hb5_)); have n3_ := Aside0.mk (blk_below (g := gb170) (o := .cells #[.string a0_0, .string a0_1, .string a0_2, .slice Ao77 y195.length co77, .slice A0_4 l0_4.length c0_4] 44 (0, 0)) (by (with_reducible repeat (first | refine blk_drewN ?_ _ | refine blk_drew ?_ | refine blk_alloc ?_ _)); refine blk_put (cs := #[.string a0_0, .string a0_1, .string a0_2, .slice Ao33 y181.length co33, .slice A0_4 l0_4.length c0_4]) ?_ 3 _ rfl; (with_reducible repeat (first | refine blk_drewN ?_ _ | refine blk_drew ?_ | refine blk_alloc ?_ _)); exact BK170.out) hb); have n4_ := Aside0.mk (blk_below (g := gb171) (o := .cells #[.string (⟨#[]⟩ : ByteArray), .string (⟨#[]⟩ : ByteArray), .string (⟨#[]⟩ : ByteArray), .slice none 0 0, .slice none 0 0] 44 (0, 0)) (by (with_reducible repeat (first | refine blk_drewN ?_ _ | refine blk_drew ?_ | refine blk_alloc ?_ _)); refine blk_far ?_ NB171_170.out _; (with_reducible repeat (first | refine blk_drewN ?_ _ | refine blk_drew ?_ | refine blk_alloc ?_ _)); exact BK171.out) hb); have n5_ := Aside0.mk (blk_below (g := gb184) (o := .cells #[.string a1, .string (t172.extract 0 8), .slice Ao66 x185002_2.length co66, .string t191] 26 (0, 0)) (by (with_reducible repeat (first | refine blk_drewN ?_ _ | refine blk_drew ?_ | refine blk_alloc ?_ _)); refine blk_far ?_ NB184_170.out _; (with_reducible repeat (first | refine blk_drewN ?_ _ | refine blk_drew ?_ | refine blk_alloc ?_ _)); exact BK184.out) hb); have n6_ := Aside0.mk (below_step hb5_ hb); clear HO_185002; clear HO197; clear BK170; clear BK171; clear BK184; clear HB; have HO_185002 := n0_; have HO197 := n1_; have HO200 := n2_; have BK170 := n3_; have BK171 := n4_; have BK184 := n5_; have HB := n6_; clear n0_ n1_ n2_ n3_ n4_ n5_ n6_; (try clear hb); (try clear hb2); (try clear hk); (try clear hi); (try clear ho0); obtain ⟨Ao81, co81, eo81⟩ := Kd.R_slice HO200.out; subst eo81; have hcz82_0 : w80.cell? ⟨gb170, 0, none⟩ = some (.string a0_0) := (blk_cell BK170.out 0).trans rfl; have hcz82_1 : w80.cell? ⟨gb170, 1, none⟩ = some (.string a0_1) := (blk_cell BK170.out 1).trans rfl; have hcz82_2 : w80.cell? ⟨gb170, 2, none⟩ = some (.string a0_2) := (blk_cell BK170.out 2).trans rfl; have hcz82_3 : w80.cell? ⟨gb170, 3, none⟩ = some (.slice Ao77 y195.length co77) := (blk_cell BK170.out 3).trans rfl; have hcz82_4 : w80.cell? ⟨gb170, 4, none⟩ = some (.slice A0_4 l0_4.length c0_4) := (blk_cell BK170.out 4).trans rfl; have hfz82_0 := blk_frozen BK170.out 0; have hfz82_1 := blk_frozen BK170.out 1; have hfz82_2 := blk_frozen BK170.out 2; have hfz82_3 := blk_frozen BK170.out 3; have hfz82_4 := blk_frozen BK170.out 4; have hcz83_0 : w80.cell? ⟨gb171, 0, none⟩ = some (.string (⟨#[]⟩ : ByteArray)) := (blk_cell BK171.out 0).trans rfl; have hcz83_1 : w80.cell? ⟨gb171, 1, none⟩ = some (.string (⟨#[]⟩ : ByteArray)) := (blk_cell BK171.out 1).trans rfl; have hcz83_2 : w80.cell? ⟨gb171, 2, none⟩ = some (.string (⟨#[]⟩ : ByteArray)) := (blk_cell BK171.out 2).trans rfl; have hcz83_3 : w80.cell? ⟨gb171, 3, none⟩ = some (.slice none 0 0) := (blk_cell BK171.out 3).trans rfl; have hcz83_4 : w80.cell? ⟨gb171, 4, none⟩ = some (.slice none 0 0) := (blk_cell BK171.out 4).trans rfl; have hfz83_0 := blk_frozen BK171.out 0; have hfz83_1 := blk_frozen BK171.out 1; have hfz83_2 := blk_frozen BK171.out 2; have hfz83_3 := blk_frozen BK171.out 3; have hfz83_4 := blk_frozen BK171.out 4))
     refine bodyPost_ret (results_ct rfl _ _ gb171 44 #[.string a0_0, .string a0_1, .string a0_2, .slice Ao77 y195.length co77, .slice Ao81 t198.length co81] (0, 0) _ rfl (by (with_reducible repeat (first | refine blk_drewN ?_ _ | refine blk_drew ?_ | refine blk_alloc ?_ _)); refine blk_put (cs := #[.string a0_0, .string a0_1, .string a0_2, .slice Ao77 y195.length co77, .slice none 0 0]) ?_ 4 _ rfl; (with_reducible repeat (first | refine blk_drewN ?_ _ | refine blk_drew ?_ | refine blk_alloc ?_ _)); refine blk_put (cs := #[.string a0_0, .string a0_1, .string a0_2, .slice none 0 0, .slice none 0 0]) ?_ 3 _ rfl; (with_reducible repeat (first | refine blk_drewN ?_ _ | refine blk_drew ?_ | refine blk_alloc ?_ _)); refine blk_put (cs := #[.string a0_0, .string a0_1, .string (⟨#[]⟩ : ByteArray), .slice none 0 0, .slice none 0 0]) ?_ 2 _ rfl; (with_reducible repeat (first | refine blk_drewN ?_ _ | refine blk_drew ?_ | refine blk_alloc ?_ _)); refine blk_put (cs := #[.string a0_0, .string (⟨#[]⟩ : ByteArray), .string (⟨#[]⟩ : ByteArray), .slice none 0 0, .slice none 0 0]) ?_ 1 _ rfl; (with_reducible repeat (first | refine blk_drewN ?_ _ | refine blk_drew ?_ | refine blk_alloc ?_ _)); refine blk_put (cs := #[.string (⟨#[]⟩ : ByteArray), .string (⟨#[]⟩ : ByteArray), .string (⟨#[]⟩ : ByteArray), .slice none 0 0, .slice none 0 0]) ?_ 0 _ rfl; (with_reducible repeat (first | refine blk_drewN ?_ _ | refine blk_drew ?_ | refine blk_alloc ?_ _)); refine blk_far ?_ NB171_170.out _; (with_reducible repeat (first | refine blk_drewN ?_ _ | refine blk_drew ?_ | refine blk_alloc ?_ _)); exact BK171.out) Tryz.underlying44 rfl (by kernel_rfl)) rfl ?_
     exact ⟨_, _, by first | rfl | (simp [errW_none, errW_some] <;> rfl) | (simp [*, errW_none, errW_some] <;> rfl), by (with_reducible repeat (first | apply Kd.R_alloc | apply Kd.R_drewN | apply Kd.R_drew)); exact Kd.R_mono (Kd.R_far (p := ⟨gb171, 4, none⟩) (Kd.R_far (p := ⟨gb171, 3, none⟩) (Kd.R_far (p := ⟨gb171, 2, none⟩) (Kd.R_far (p := ⟨gb171, 1, none⟩) (Kd.R_far (p := ⟨gb171, 0, none⟩) (Kd.R_far (p := ⟨gb170, 4, none⟩) (Kd.R_types (Kd.R_types HO197.out BK170.out (by decide)) BK171.out (by decide)) (fun _ hk => hk.1.2) (.slice Ao81 t198.length co81)) (fun _ hk => hk.2) (.string a0_0)) (fun _ hk => hk.2) (.string a0_1)) (fun _ hk => hk.2) (.string a0_2)) (fun _ hk => hk.2) (.slice Ao77 y195.length co77)) (fun _ hk => hk.2) (.slice Ao81 t198.length co81)) (fun _ hk => trivial), by (with_reducible repeat (first | apply Kd.R_alloc | apply Kd.R_drewN | apply Kd.R_drew)); exact Kd.R_mono (Kd.R_far (p := ⟨gb171, 4, none⟩) (Kd.R_far (p := ⟨gb171, 3, none⟩) (Kd.R_far (p := ⟨gb171, 2, none⟩) (Kd.R_far (p := ⟨gb171, 1, none⟩) (Kd.R_far (p := ⟨gb171, 0, none⟩) (Kd.R_far (p := ⟨gb170, 4, none⟩) (Kd.R_types (Kd.R_types HO200.out BK170.out (by decide)) BK171.out (by decide)) (fun _ hk => hk.1.2) (.slice Ao81 t198.length co81)) (fun _ hk => hk.2) (.string a0_0)) (fun _ hk => hk.2) (.string a0_1)) (fun _ hk => hk.2) (.string a0_2)) (fun _ hk => hk.2) (.slice Ao77 y195.length co77)) (fun _ hk => hk.2) (.slice Ao81 t198.length co81)) (fun _ hk => trivial), hb5_⟩
end Go.Proofs.YtghcadbmjglidaaGreatDoor.PSg
end
section
namespace Go.Proofs.YtghcadbmjglidaaGreatDoor.PSg
open Go.RowKit Go.Proofs.YtghcadbmjglidaaGreatDoorW.PrintWords Go.Proofs.YtghcadbmjglidaaGreatDoorW.PrintLast Go.Proofs.YtghcadbmjglidaaGreatDoorW.PrintMore
attribute [local go_sem] max2_int min2_int max_two min_two max_three min_three max_four min_four
set_option linter.unusedVariables false
set_option linter.unusedSimpArgs false
def authB : ByteArray := ⟨#[97, 117, 116, 104, 111, 114, 105, 122, 97, 116, 105, 111, 110]⟩
def xdateB : ByteArray := ⟨#[120, 45, 97, 109, 122, 45, 100, 97, 116, 101]⟩
theorem conv_C (W : World) (s : ByteArray) (hs : s.size ≤ 1000000) : Kd.C (Kd.int .u8) (Lib.bytesWorld W 5 s) (some ⟨W.heap.size, 0, none⟩) s.size (bytesOf s) :=
 Kd.C_of_reads (enc := Value.int .u8) (d := (0 : Int)) (h1 := fun _ => rfl) (bytes_reads W 5 s (by omega))
def verA (k : Nat) (m p q : ByteArray) (hs : List S55) (body : List Int) (sec : ByteArray) (now : Int) : Option Int :=
 (request_Get.f m p q hs body authB).bind fun v =>
 (sigv4_ReadAuth.f k v.1).bind fun a =>
 (request_Get.f m p q hs body xdateB).bind fun d =>
 (clock_Read.f d.1).bind fun t =>
  if orZ [a.2.2.2.2, t.2] = 0 then
   if 8 ≤ d.1.size then
    if (d.1.extract 0 8).toList = a.2.1.toList then
     (slices_Contains_string_string.f k a.2.2.1 xdateB).bind fun b =>
      if b = true then
       (clock_Near.f t.1 now 900).bind fun n =>
        if n = true then
         (sigv4_Sign.f k sec m p q hs body a.2.2.1 t.1).bind fun s =>
          if s.2 = 0 then (if s.1.size ≤ 1000000 ∧ a.2.2.2.1.size ≤ 1000000 then (digest_Same.f k (bytesOf s.1) (bytesOf a.2.2.2.1)).bind fun r => if r = true then some 0 else some 20 else none)
          else some s.2
        else some 21
      else some 20
    else some 20
   else none
  else some 20
def sigv4_Verify.f (k : Nat) (a0_0 : ByteArray) (a0_1 : ByteArray) (a0_2 : ByteArray) (l0_3 : List (S55)) (l0_4 : List Int) (a1 : ByteArray) (a2 : Int) : Option (Int) := verA k a0_0 a0_1 a0_2 l0_3 l0_4 a1 a2
set_option maxRecDepth 100000 in
set_option maxHeartbeats 4000000 in
theorem sigv4_Verify.calls (k : Nat) (a0_0 : ByteArray) (a0_1 : ByteArray) (a0_2 : ByteArray) (A0_3 : Option Addr) (c0_3 : Nat) (l0_3 : List (S55)) (A0_4 : Option Addr) (c0_4 : Nat) (l0_4 : List Int) (a1 : ByteArray) (a2 : Int) (r : Int) (w : World) (hr0_3 : Kd.C k55 w A0_3 l0_3.length l0_3) (hc0_3 : l0_3.length ≤ c0_3) (hr0_4 : Kd.C (Kd.int .u8) w A0_4 l0_4.length l0_4) (hc0_4 : l0_4.length ≤ c0_4) (h : sigv4_Verify.f k a0_0 a0_1 a0_2 l0_3 l0_4 a1 a2 = some r) (hM : Aside0 (MaxOk w)) :
    Calls Tryz.prog 15 #[.agg #[.string a0_0, .string a0_1, .string a0_2, .slice A0_3 l0_3.length c0_3, .slice A0_4 l0_4.length c0_4], .string a1, .int .u64 a2] w fun e w' => e = .returned (.int .i64 r) ∧ Below w.heap.size w w' := by
  obtain ⟨m, hm⟩ := hM.out
  unfold sigv4_Verify.f verA at h
  cases hv : request_Get.f a0_0 a0_1 a0_2 l0_3 l0_4 authB with
  | none => rw [hv] at h; cases h
  | some v =>
  obtain ⟨v1, vb⟩ := v
  rw [hv, Option.bind_some] at h
  dsimp only at h
  have HV := Lib.hid hv
  clear hv
  cases ha : sigv4_ReadAuth.f k v1 with
  | none => rw [ha] at h; cases h
  | some a =>
  obtain ⟨x1, x2, x3, x4, x5⟩ := a
  rw [ha, Option.bind_some] at h
  dsimp only at h
  have HA := Lib.hid ha
  clear ha
  cases hd : request_Get.f a0_0 a0_1 a0_2 l0_3 l0_4 xdateB with
  | none => rw [hd] at h; cases h
  | some d =>
  obtain ⟨d1, db⟩ := d
  rw [hd, Option.bind_some] at h
  dsimp only at h
  have HD := Lib.hid hd
  clear hd
  cases ht : clock_Read.f d1 with
  | none => rw [ht] at h; cases h
  | some t =>
  obtain ⟨t1, t2⟩ := t
  rw [ht, Option.bind_some] at h
  dsimp only at h
  have HT := Lib.hid ht
  clear ht
  have R1 := Lib.hid hr0_3
  have R2 := Lib.hid hr0_4
  clear hr0_3 hr0_4 hM
  obtain ⟨o, ho⟩ : ∃ o, orZ [x5, t2] = o := ⟨_, rfl⟩
  rw [ho] at h
  have HO := Lib.hid ho
  clear ho
  by_cases ho0 : o = 0
  case neg =>
    rw [if_neg ho0] at h
    obtain rfl := Option.some.inj h
    have hq : (o != 0) = true := by simpa using ho0
    clear ho0 h
    obtain ⟨W0, hW0⟩ : ∃ W0, W0 = w.alloc (.cells #[.string a0_0, .string a0_1, .string a0_2, .slice A0_3 l0_3.length c0_3, .slice A0_4 l0_4.length c0_4] 44) := ⟨_, rfl⟩
    have bk0 : W0.heap[w.heap.size]? = some (.cells #[.string a0_0, .string a0_1, .string a0_2, .slice A0_3 l0_3.length c0_3, .slice A0_4 l0_4.length c0_4] 44 (0, 0)) := by rw [hW0]; exact heap_alloc_new w _
    have f0 : Fr (fun _ => False) w W0 := by rw [hW0]; exact (Fr.refl _ _).alloc _
    have F0 := Lib.hid f0
    have BK0 := Lib.hid bk0
    have b0 := (blk_cell bk0 0).trans rfl
    have b1 := (blk_cell bk0 1).trans rfl
    have b2 := (blk_cell bk0 2).trans rfl
    have b3 := (blk_cell bk0 3).trans rfl
    have b4 := (blk_cell bk0 4).trans rfl
    clear f0 bk0
    go_enter Tryz.func15, Tryz.ntmps15
    go_wp2_with fail
    rw [← hW0]
    clear hW0
    go_wp2_with (first
      | (go_at_call 30; refine (request_Get.calls a0_0 a0_1 a0_2 A0_3 c0_3 l0_3 A0_4 c0_4 l0_4 authB v1 vb W0 (Kd.C_below R1.out (F0.out.below (Nat.le_refl _) (fun _ _ => id))) hc0_3 (Kd.C_below R2.out (F0.out.below (Nat.le_refl _) (fun _ _ => id))) hc0_4 HV.out).mono ?_; clear HV; rintro e w1 ⟨rfl, hb1⟩
         have F1 := Lib.hid (F0.out.trans (Fr.of_below0 hb1))
         have BK1 := Lib.hid ((Fr.of_below0 hb1).heap BK0.out id)
         clear hb1 F0 BK0 b0 b1 b2 b3 b4)
      | (go_at_call 7; refine (sigv4_ReadAuth.calls k v1 x1 x2 x3 x4 x5 w1 HA.out (.mk ⟨m, F1.out.cell hm id⟩)).mono ?_; clear HA; rintro e w2 ⟨u, rfl, hR2, hb2⟩
         obtain ⟨XA, XC, rfl⟩ := Kd.R_slice hR2
         obtain ⟨w3, hw3⟩ : ∃ w3, w2.alloc (.cells #[.string x1, .string x2, .slice XA x3.length XC, .string x4] 26) = w3 := ⟨_, rfl⟩
         have f23 : Fr (fun _ => False) w1 w3 := (Fr.of_below0 hb2).trans (by rw [← hw3]; exact (Fr.refl _ _).alloc _)
         have f2b : Fr (fun _ => False) w2 w3 := by rw [← hw3]; exact (Fr.refl _ _).alloc _
         have F3 := Lib.hid (F1.out.trans f23)
         have bk3 := f23.heap BK1.out id
         have AK3 := Lib.hid (show w3.heap[w2.heap.size]? = some (.cells #[.string x1, .string x2, .slice XA x3.length XC, .string x4] 26 (0, 0)) by rw [← hw3]; exact heap_alloc_new w2 _)
         have HR3 := Lib.hid (Kd.R_below hR2 (f2b.below (Nat.le_refl _) (fun _ _ => id)))
         have BK3 := Lib.hid bk3
         have b0 := (blk_cell bk3 0).trans rfl
         have b1 := (blk_cell bk3 1).trans rfl
         have b2 := (blk_cell bk3 2).trans rfl
         have b3 := (blk_cell bk3 3).trans rfl
         have b4 := (blk_cell bk3 4).trans rfl
         clear hb2 F1 BK1 hR2 f23 f2b bk3)
      | (go_at_call 30; refine (request_Get.calls a0_0 a0_1 a0_2 A0_3 c0_3 l0_3 A0_4 c0_4 l0_4 xdateB d1 db w3 (Kd.C_below R1.out (F3.out.below (Nat.le_refl _) (fun _ _ => id))) hc0_3 (Kd.C_below R2.out (F3.out.below (Nat.le_refl _) (fun _ _ => id))) hc0_4 HD.out).mono ?_; clear HD; rintro e w4 ⟨rfl, hb4⟩
         have f4 : Fr (fun _ => False) w3 w4 := Fr.of_below0 hb4
         have F4 := Lib.hid (F3.out.trans f4)
         have BK4 := Lib.hid (f4.heap BK3.out id)
         have AK4 := Lib.hid (f4.heap AK3.out id)
         have HR4 := Lib.hid (Kd.R_below HR3.out (f4.below (Nat.le_refl _) (fun _ _ => id)))
         clear hb4 f4 F3 BK3 AK3 HR3 b0 b1 b2 b3 b4)
      | (go_at_call 35; refine (clock_Read.calls d1 t1 t2 w4 HT.out).mono ?_; clear HT; rintro e w5 ⟨rfl, hb5⟩
         have f5 : Fr (fun _ => False) w4 w5 := Fr.of_below0 hb5
         have F5 := Lib.hid (F4.out.trans f5)
         have BK5 := Lib.hid (f5.heap BK4.out id)
         have AK5 := Lib.hid (f5.heap AK4.out id)
         have HR5 := Lib.hid (Kd.R_below HR4.out (f5.below (Nat.le_refl _) (fun _ _ => id)))
         clear hb5 f5 F4 BK4 AK4 HR4)
      | (go_at_call 36; refine (or2 x5 t2 w5).mono ?_; rintro e w6 ⟨rfl, h6⟩; rw [HO.out]
         have f6 : Fr (fun _ => False) w5 w6 := by rw [← h6]; exact (Fr.refl _ _).alloc _
         have F6 := Lib.hid (F5.out.trans f6)
         have BK6 := Lib.hid (f6.heap BK5.out id)
         have AK6 := Lib.hid (f6.heap AK5.out id)
         have HR6 := Lib.hid (Kd.R_below HR5.out (f6.below (Nat.le_refl _) (fun _ _ => id)))
         clear h6 f6 F5 BK5 AK5 HR5))
    go_ret
    exact ⟨rfl, F6.out.below (Nat.le_refl _) (fun _ _ => id)⟩
  case pos =>
  subst ho0
  rw [if_pos rfl] at h
  split at h
  case isFalse => cases h
  case isTrue h8 =>
  by_cases hdt : (d1.extract 0 8).toList = x2.toList
  case neg =>
    rw [if_neg hdt] at h
    obtain rfl := Option.some.inj h
    have hq : ((d1.extract 0 8).toList == x2.toList) = false := beq_eq_false_iff_ne.2 hdt
    clear hdt h
    obtain ⟨W0, hW0⟩ : ∃ W0, W0 = w.alloc (.cells #[.string a0_0, .string a0_1, .string a0_2, .slice A0_3 l0_3.length c0_3, .slice A0_4 l0_4.length c0_4] 44) := ⟨_, rfl⟩
    have bk0 : W0.heap[w.heap.size]? = some (.cells #[.string a0_0, .string a0_1, .string a0_2, .slice A0_3 l0_3.length c0_3, .slice A0_4 l0_4.length c0_4] 44 (0, 0)) := by rw [hW0]; exact heap_alloc_new w _
    have f0 : Fr (fun _ => False) w W0 := by rw [hW0]; exact (Fr.refl _ _).alloc _
    have F0 := Lib.hid f0
    have BK0 := Lib.hid bk0
    have b0 := (blk_cell bk0 0).trans rfl
    have b1 := (blk_cell bk0 1).trans rfl
    have b2 := (blk_cell bk0 2).trans rfl
    have b3 := (blk_cell bk0 3).trans rfl
    have b4 := (blk_cell bk0 4).trans rfl
    clear f0 bk0
    go_enter Tryz.func15, Tryz.ntmps15
    go_wp2_with fail
    rw [← hW0]
    clear hW0
    go_wp2_with (first
      | (go_at_call 30; refine (request_Get.calls a0_0 a0_1 a0_2 A0_3 c0_3 l0_3 A0_4 c0_4 l0_4 authB v1 vb W0 (Kd.C_below R1.out (F0.out.below (Nat.le_refl _) (fun _ _ => id))) hc0_3 (Kd.C_below R2.out (F0.out.below (Nat.le_refl _) (fun _ _ => id))) hc0_4 HV.out).mono ?_; clear HV; rintro e w1 ⟨rfl, hb1⟩
         have F1 := Lib.hid (F0.out.trans (Fr.of_below0 hb1))
         have BK1 := Lib.hid ((Fr.of_below0 hb1).heap BK0.out id)
         clear hb1 F0 BK0 b0 b1 b2 b3 b4)
      | (go_at_call 7; refine (sigv4_ReadAuth.calls k v1 x1 x2 x3 x4 x5 w1 HA.out (.mk ⟨m, F1.out.cell hm id⟩)).mono ?_; clear HA; rintro e w2 ⟨u, rfl, hR2, hb2⟩
         obtain ⟨XA, XC, rfl⟩ := Kd.R_slice hR2
         obtain ⟨w3, hw3⟩ : ∃ w3, w2.alloc (.cells #[.string x1, .string x2, .slice XA x3.length XC, .string x4] 26) = w3 := ⟨_, rfl⟩
         have f23 : Fr (fun _ => False) w1 w3 := (Fr.of_below0 hb2).trans (by rw [← hw3]; exact (Fr.refl _ _).alloc _)
         have f2b : Fr (fun _ => False) w2 w3 := by rw [← hw3]; exact (Fr.refl _ _).alloc _
         have F3 := Lib.hid (F1.out.trans f23)
         have bk3 := f23.heap BK1.out id
         have AK3 := Lib.hid (show w3.heap[w2.heap.size]? = some (.cells #[.string x1, .string x2, .slice XA x3.length XC, .string x4] 26 (0, 0)) by rw [← hw3]; exact heap_alloc_new w2 _)
         have HR3 := Lib.hid (Kd.R_below hR2 (f2b.below (Nat.le_refl _) (fun _ _ => id)))
         have BK3 := Lib.hid bk3
         have b0 := (blk_cell bk3 0).trans rfl
         have b1 := (blk_cell bk3 1).trans rfl
         have b2 := (blk_cell bk3 2).trans rfl
         have b3 := (blk_cell bk3 3).trans rfl
         have b4 := (blk_cell bk3 4).trans rfl
         clear hb2 F1 BK1 hR2 f23 f2b bk3)
      | (go_at_call 30; refine (request_Get.calls a0_0 a0_1 a0_2 A0_3 c0_3 l0_3 A0_4 c0_4 l0_4 xdateB d1 db w3 (Kd.C_below R1.out (F3.out.below (Nat.le_refl _) (fun _ _ => id))) hc0_3 (Kd.C_below R2.out (F3.out.below (Nat.le_refl _) (fun _ _ => id))) hc0_4 HD.out).mono ?_; clear HD; rintro e w4 ⟨rfl, hb4⟩
         have f4 : Fr (fun _ => False) w3 w4 := Fr.of_below0 hb4
         have F4 := Lib.hid (F3.out.trans f4)
         have BK4 := Lib.hid (f4.heap BK3.out id)
         have AK4 := Lib.hid (f4.heap AK3.out id)
         have HR4 := Lib.hid (Kd.R_below HR3.out (f4.below (Nat.le_refl _) (fun _ _ => id)))
         clear hb4 f4 F3 BK3 AK3 HR3 b0 b1 b2 b3 b4)
      | (go_at_call 35; refine (clock_Read.calls d1 t1 t2 w4 HT.out).mono ?_; clear HT; rintro e w5 ⟨rfl, hb5⟩
         have f5 : Fr (fun _ => False) w4 w5 := Fr.of_below0 hb5
         have F5 := Lib.hid (F4.out.trans f5)
         have BK5 := Lib.hid (f5.heap BK4.out id)
         have AK5 := Lib.hid (f5.heap AK4.out id)
         have HR5 := Lib.hid (Kd.R_below HR4.out (f5.below (Nat.le_refl _) (fun _ _ => id)))
         clear hb5 f5 F4 BK4 AK4 HR4)
      | (go_at_call 36; refine (or2 x5 t2 w5).mono ?_; rintro e w6 ⟨rfl, h6⟩; rw [HO.out]
         have f6 : Fr (fun _ => False) w5 w6 := by rw [← h6]; exact (Fr.refl _ _).alloc _
         have F6 := Lib.hid (F5.out.trans f6)
         have BK6 := Lib.hid (f6.heap BK5.out id)
         have AK6 := Lib.hid (f6.heap AK5.out id)
         have HR6 := Lib.hid (Kd.R_below HR5.out (f6.below (Nat.le_refl _) (fun _ _ => id)))
         clear h6 f6 F5 BK5 AK5 HR5))
    have e1 := (blk_cell AK6.out 1).trans rfl
    have h8i : (8 : Int) ≤ d1.size := by omega
    go_region
    go_wp2_with fail
    go_ret
    exact ⟨rfl, (by first | exact F6.out | exact F6.out.drew | exact F6.out.drewN _ : Fr (fun _ => False) w _).below (Nat.le_refl _) (fun _ _ => id)⟩
  case pos =>
  rw [if_pos hdt] at h
  have hq : ((d1.extract 0 8).toList == x2.toList) = true := beq_iff_eq.2 hdt
  cases hb : slices_Contains_string_string.f k x3 xdateB with
  | none => rw [hb] at h; cases h
  | some b =>
  rw [hb, Option.bind_some] at h
  have HC := Lib.hid hb
  clear hb hdt
  cases b with
  | false =>
    obtain rfl : (20 : Int) = r := Option.some.inj h
    clear h
    obtain ⟨W0, hW0⟩ : ∃ W0, W0 = w.alloc (.cells #[.string a0_0, .string a0_1, .string a0_2, .slice A0_3 l0_3.length c0_3, .slice A0_4 l0_4.length c0_4] 44) := ⟨_, rfl⟩
    have bk0 : W0.heap[w.heap.size]? = some (.cells #[.string a0_0, .string a0_1, .string a0_2, .slice A0_3 l0_3.length c0_3, .slice A0_4 l0_4.length c0_4] 44 (0, 0)) := by rw [hW0]; exact heap_alloc_new w _
    have f0 : Fr (fun _ => False) w W0 := by rw [hW0]; exact (Fr.refl _ _).alloc _
    have F0 := Lib.hid f0
    have BK0 := Lib.hid bk0
    have b0 := (blk_cell bk0 0).trans rfl
    have b1 := (blk_cell bk0 1).trans rfl
    have b2 := (blk_cell bk0 2).trans rfl
    have b3 := (blk_cell bk0 3).trans rfl
    have b4 := (blk_cell bk0 4).trans rfl
    clear f0 bk0
    go_enter Tryz.func15, Tryz.ntmps15
    go_wp2_with fail
    rw [← hW0]
    clear hW0
    go_wp2_with (first
      | (go_at_call 30; refine (request_Get.calls a0_0 a0_1 a0_2 A0_3 c0_3 l0_3 A0_4 c0_4 l0_4 authB v1 vb W0 (Kd.C_below R1.out (F0.out.below (Nat.le_refl _) (fun _ _ => id))) hc0_3 (Kd.C_below R2.out (F0.out.below (Nat.le_refl _) (fun _ _ => id))) hc0_4 HV.out).mono ?_; clear HV; rintro e w1 ⟨rfl, hb1⟩
         have F1 := Lib.hid (F0.out.trans (Fr.of_below0 hb1))
         have BK1 := Lib.hid ((Fr.of_below0 hb1).heap BK0.out id)
         clear hb1 F0 BK0 b0 b1 b2 b3 b4)
      | (go_at_call 7; refine (sigv4_ReadAuth.calls k v1 x1 x2 x3 x4 x5 w1 HA.out (.mk ⟨m, F1.out.cell hm id⟩)).mono ?_; clear HA; rintro e w2 ⟨u, rfl, hR2, hb2⟩
         obtain ⟨XA, XC, rfl⟩ := Kd.R_slice hR2
         obtain ⟨w3, hw3⟩ : ∃ w3, w2.alloc (.cells #[.string x1, .string x2, .slice XA x3.length XC, .string x4] 26) = w3 := ⟨_, rfl⟩
         have f23 : Fr (fun _ => False) w1 w3 := (Fr.of_below0 hb2).trans (by rw [← hw3]; exact (Fr.refl _ _).alloc _)
         have f2b : Fr (fun _ => False) w2 w3 := by rw [← hw3]; exact (Fr.refl _ _).alloc _
         have F3 := Lib.hid (F1.out.trans f23)
         have bk3 := f23.heap BK1.out id
         have AK3 := Lib.hid (show w3.heap[w2.heap.size]? = some (.cells #[.string x1, .string x2, .slice XA x3.length XC, .string x4] 26 (0, 0)) by rw [← hw3]; exact heap_alloc_new w2 _)
         have HR3 := Lib.hid (Kd.R_below hR2 (f2b.below (Nat.le_refl _) (fun _ _ => id)))
         have BK3 := Lib.hid bk3
         have b0 := (blk_cell bk3 0).trans rfl
         have b1 := (blk_cell bk3 1).trans rfl
         have b2 := (blk_cell bk3 2).trans rfl
         have b3 := (blk_cell bk3 3).trans rfl
         have b4 := (blk_cell bk3 4).trans rfl
         clear hb2 F1 BK1 hR2 f23 f2b bk3)
      | (go_at_call 30; refine (request_Get.calls a0_0 a0_1 a0_2 A0_3 c0_3 l0_3 A0_4 c0_4 l0_4 xdateB d1 db w3 (Kd.C_below R1.out (F3.out.below (Nat.le_refl _) (fun _ _ => id))) hc0_3 (Kd.C_below R2.out (F3.out.below (Nat.le_refl _) (fun _ _ => id))) hc0_4 HD.out).mono ?_; clear HD; rintro e w4 ⟨rfl, hb4⟩
         have f4 : Fr (fun _ => False) w3 w4 := Fr.of_below0 hb4
         have F4 := Lib.hid (F3.out.trans f4)
         have BK4 := Lib.hid (f4.heap BK3.out id)
         have AK4 := Lib.hid (f4.heap AK3.out id)
         have HR4 := Lib.hid (Kd.R_below HR3.out (f4.below (Nat.le_refl _) (fun _ _ => id)))
         clear hb4 f4 F3 BK3 AK3 HR3 b0 b1 b2 b3 b4)
      | (go_at_call 35; refine (clock_Read.calls d1 t1 t2 w4 HT.out).mono ?_; clear HT; rintro e w5 ⟨rfl, hb5⟩
         have f5 : Fr (fun _ => False) w4 w5 := Fr.of_below0 hb5
         have F5 := Lib.hid (F4.out.trans f5)
         have BK5 := Lib.hid (f5.heap BK4.out id)
         have AK5 := Lib.hid (f5.heap AK4.out id)
         have HR5 := Lib.hid (Kd.R_below HR4.out (f5.below (Nat.le_refl _) (fun _ _ => id)))
         clear hb5 f5 F4 BK4 AK4 HR4)
      | (go_at_call 36; refine (or2 x5 t2 w5).mono ?_; rintro e w6 ⟨rfl, h6⟩; rw [HO.out]
         have f6 : Fr (fun _ => False) w5 w6 := by rw [← h6]; exact (Fr.refl _ _).alloc _
         have F6 := Lib.hid (F5.out.trans f6)
         have BK6 := Lib.hid (f6.heap BK5.out id)
         have AK6 := Lib.hid (f6.heap AK5.out id)
         have HR6 := Lib.hid (Kd.R_below HR5.out (f6.below (Nat.le_refl _) (fun _ _ => id)))
         clear h6 f6 F5 BK5 AK5 HR5))
    have e1 := (blk_cell AK6.out 1).trans rfl
    have e2 := (blk_cell AK6.out 2).trans rfl
    have h8i : (8 : Int) ≤ d1.size := by omega
    go_region
    go_wp2_with (first
      | (go_at_call 37; refine (slices_Contains_string_string.calls k XA XC x3 xdateB _ w6.drew (Kd.C_drew (Kd.R_reads' HR6.out).2.2) (Kd.R_reads' HR6.out).2.1 HC.out).mono ?_; clear HC; rintro e w7 ⟨rfl, hd7⟩
         have f7 : Fr (fun _ => False) w6 w7 := (Fr.refl _ _).drew.trans (Fr.of_below0 hd7.below)
         have F7 := Lib.hid (F6.out.trans f7)
         have BK7 := Lib.hid (f7.heap BK6.out id)
         have AK7 := Lib.hid (f7.heap AK6.out id)
         have HR7 := Lib.hid (Kd.R_below HR6.out (f7.below (Nat.le_refl _) (fun _ _ => id)))
         clear hd7 f7 F6 BK6 AK6 HR6 e1 e2))
    go_ret
    exact ⟨rfl, F7.out.below (Nat.le_refl _) (fun _ _ => id)⟩
  | true =>
    rw [if_pos rfl] at h
    cases hn : clock_Near.f t1 a2 900 with
    | none => rw [hn] at h; cases h
    | some n =>
    rw [hn, Option.bind_some] at h
    have HN := Lib.hid hn
    clear hn
    cases n with
    | false =>
      obtain rfl : (21 : Int) = r := Option.some.inj h
      clear h
      obtain ⟨W0, hW0⟩ : ∃ W0, W0 = w.alloc (.cells #[.string a0_0, .string a0_1, .string a0_2, .slice A0_3 l0_3.length c0_3, .slice A0_4 l0_4.length c0_4] 44) := ⟨_, rfl⟩
      have bk0 : W0.heap[w.heap.size]? = some (.cells #[.string a0_0, .string a0_1, .string a0_2, .slice A0_3 l0_3.length c0_3, .slice A0_4 l0_4.length c0_4] 44 (0, 0)) := by rw [hW0]; exact heap_alloc_new w _
      have f0 : Fr (fun _ => False) w W0 := by rw [hW0]; exact (Fr.refl _ _).alloc _
      have F0 := Lib.hid f0
      have BK0 := Lib.hid bk0
      have b0 := (blk_cell bk0 0).trans rfl
      have b1 := (blk_cell bk0 1).trans rfl
      have b2 := (blk_cell bk0 2).trans rfl
      have b3 := (blk_cell bk0 3).trans rfl
      have b4 := (blk_cell bk0 4).trans rfl
      clear f0 bk0
      go_enter Tryz.func15, Tryz.ntmps15
      go_wp2_with fail
      rw [← hW0]
      clear hW0
      go_wp2_with (first
        | (go_at_call 30; refine (request_Get.calls a0_0 a0_1 a0_2 A0_3 c0_3 l0_3 A0_4 c0_4 l0_4 authB v1 vb W0 (Kd.C_below R1.out (F0.out.below (Nat.le_refl _) (fun _ _ => id))) hc0_3 (Kd.C_below R2.out (F0.out.below (Nat.le_refl _) (fun _ _ => id))) hc0_4 HV.out).mono ?_; clear HV; rintro e w1 ⟨rfl, hb1⟩
           have F1 := Lib.hid (F0.out.trans (Fr.of_below0 hb1))
           have BK1 := Lib.hid ((Fr.of_below0 hb1).heap BK0.out id)
           clear hb1 F0 BK0 b0 b1 b2 b3 b4)
        | (go_at_call 7; refine (sigv4_ReadAuth.calls k v1 x1 x2 x3 x4 x5 w1 HA.out (.mk ⟨m, F1.out.cell hm id⟩)).mono ?_; clear HA; rintro e w2 ⟨u, rfl, hR2, hb2⟩
           obtain ⟨XA, XC, rfl⟩ := Kd.R_slice hR2
           obtain ⟨w3, hw3⟩ : ∃ w3, w2.alloc (.cells #[.string x1, .string x2, .slice XA x3.length XC, .string x4] 26) = w3 := ⟨_, rfl⟩
           have f23 : Fr (fun _ => False) w1 w3 := (Fr.of_below0 hb2).trans (by rw [← hw3]; exact (Fr.refl _ _).alloc _)
           have f2b : Fr (fun _ => False) w2 w3 := by rw [← hw3]; exact (Fr.refl _ _).alloc _
           have F3 := Lib.hid (F1.out.trans f23)
           have bk3 := f23.heap BK1.out id
           have AK3 := Lib.hid (show w3.heap[w2.heap.size]? = some (.cells #[.string x1, .string x2, .slice XA x3.length XC, .string x4] 26 (0, 0)) by rw [← hw3]; exact heap_alloc_new w2 _)
           have HR3 := Lib.hid (Kd.R_below hR2 (f2b.below (Nat.le_refl _) (fun _ _ => id)))
           have BK3 := Lib.hid bk3
           have b0 := (blk_cell bk3 0).trans rfl
           have b1 := (blk_cell bk3 1).trans rfl
           have b2 := (blk_cell bk3 2).trans rfl
           have b3 := (blk_cell bk3 3).trans rfl
           have b4 := (blk_cell bk3 4).trans rfl
           clear hb2 F1 BK1 hR2 f23 f2b bk3)
        | (go_at_call 30; refine (request_Get.calls a0_0 a0_1 a0_2 A0_3 c0_3 l0_3 A0_4 c0_4 l0_4 xdateB d1 db w3 (Kd.C_below R1.out (F3.out.below (Nat.le_refl _) (fun _ _ => id))) hc0_3 (Kd.C_below R2.out (F3.out.below (Nat.le_refl _) (fun _ _ => id))) hc0_4 HD.out).mono ?_; clear HD; rintro e w4 ⟨rfl, hb4⟩
           have f4 : Fr (fun _ => False) w3 w4 := Fr.of_below0 hb4
           have F4 := Lib.hid (F3.out.trans f4)
           have BK4 := Lib.hid (f4.heap BK3.out id)
           have AK4 := Lib.hid (f4.heap AK3.out id)
           have HR4 := Lib.hid (Kd.R_below HR3.out (f4.below (Nat.le_refl _) (fun _ _ => id)))
           clear hb4 f4 F3 BK3 AK3 HR3 b0 b1 b2 b3 b4)
        | (go_at_call 35; refine (clock_Read.calls d1 t1 t2 w4 HT.out).mono ?_; clear HT; rintro e w5 ⟨rfl, hb5⟩
           have f5 : Fr (fun _ => False) w4 w5 := Fr.of_below0 hb5
           have F5 := Lib.hid (F4.out.trans f5)
           have BK5 := Lib.hid (f5.heap BK4.out id)
           have AK5 := Lib.hid (f5.heap AK4.out id)
           have HR5 := Lib.hid (Kd.R_below HR4.out (f5.below (Nat.le_refl _) (fun _ _ => id)))
           clear hb5 f5 F4 BK4 AK4 HR4)
        | (go_at_call 36; refine (or2 x5 t2 w5).mono ?_; rintro e w6 ⟨rfl, h6⟩; rw [HO.out]
           have f6 : Fr (fun _ => False) w5 w6 := by rw [← h6]; exact (Fr.refl _ _).alloc _
           have F6 := Lib.hid (F5.out.trans f6)
           have BK6 := Lib.hid (f6.heap BK5.out id)
           have AK6 := Lib.hid (f6.heap AK5.out id)
           have HR6 := Lib.hid (Kd.R_below HR5.out (f6.below (Nat.le_refl _) (fun _ _ => id)))
           clear h6 f6 F5 BK5 AK5 HR5))
      have e1 := (blk_cell AK6.out 1).trans rfl
      have e2 := (blk_cell AK6.out 2).trans rfl
      have h8i : (8 : Int) ≤ d1.size := by omega
      go_region
      go_wp2_with (first
        | (go_at_call 37; refine (slices_Contains_string_string.calls k XA XC x3 xdateB _ w6.drew (Kd.C_drew (Kd.R_reads' HR6.out).2.2) (Kd.R_reads' HR6.out).2.1 HC.out).mono ?_; clear HC; rintro e w7 ⟨rfl, hd7⟩
           have f7 : Fr (fun _ => False) w6 w7 := (Fr.refl _ _).drew.trans (Fr.of_below0 hd7.below)
           have F7 := Lib.hid (F6.out.trans f7)
           have BK7 := Lib.hid (f7.heap BK6.out id)
           have AK7 := Lib.hid (f7.heap AK6.out id)
           have HR7 := Lib.hid (Kd.R_below HR6.out (f7.below (Nat.le_refl _) (fun _ _ => id)))
           clear hd7 f7 F6 BK6 AK6 HR6 e1 e2)
        | (go_at_call 38; refine (clock_Near.calls t1 a2 900 _ w7 HN.out).mono ?_; clear HN; rintro e w8 ⟨rfl, hb8⟩
           have f8 : Fr (fun _ => False) w7 w8 := Fr.of_below0 hb8
           have F8 := Lib.hid (F7.out.trans f8)
           have BK8 := Lib.hid (f8.heap BK7.out id)
           have AK8 := Lib.hid (f8.heap AK7.out id)
           have HR8 := Lib.hid (Kd.R_below HR7.out (f8.below (Nat.le_refl _) (fun _ _ => id)))
           have b0 := (blk_cell BK8.out 0).trans rfl
           have b1 := (blk_cell BK8.out 1).trans rfl
           have b2 := (blk_cell BK8.out 2).trans rfl
           have b3 := (blk_cell BK8.out 3).trans rfl
           have b4 := (blk_cell BK8.out 4).trans rfl
           have e2 := (blk_cell AK8.out 2).trans rfl
           clear hb8 f8 F7 BK7 AK7 HR7))
      go_ret
      exact ⟨rfl, F8.out.below (Nat.le_refl _) (fun _ _ => id)⟩
    | true =>
      rw [if_pos rfl] at h
      cases hs : sigv4_Sign.f k a1 a0_0 a0_1 a0_2 l0_3 l0_4 x3 t1 with
      | none => rw [hs] at h; cases h
      | some s =>
      obtain ⟨s1, s2⟩ := s
      rw [hs, Option.bind_some] at h
      dsimp only at h
      have HS := Lib.hid hs
      clear hs
      by_cases hs2 : s2 = 0
      case neg =>
        rw [if_neg hs2] at h
        obtain rfl := Option.some.inj h
        have hq2 : (s2 != 0) = true := by simpa using hs2
        clear hs2 h
        obtain ⟨W0, hW0⟩ : ∃ W0, W0 = w.alloc (.cells #[.string a0_0, .string a0_1, .string a0_2, .slice A0_3 l0_3.length c0_3, .slice A0_4 l0_4.length c0_4] 44) := ⟨_, rfl⟩
        have bk0 : W0.heap[w.heap.size]? = some (.cells #[.string a0_0, .string a0_1, .string a0_2, .slice A0_3 l0_3.length c0_3, .slice A0_4 l0_4.length c0_4] 44 (0, 0)) := by rw [hW0]; exact heap_alloc_new w _
        have f0 : Fr (fun _ => False) w W0 := by rw [hW0]; exact (Fr.refl _ _).alloc _
        have F0 := Lib.hid f0
        have BK0 := Lib.hid bk0
        have b0 := (blk_cell bk0 0).trans rfl
        have b1 := (blk_cell bk0 1).trans rfl
        have b2 := (blk_cell bk0 2).trans rfl
        have b3 := (blk_cell bk0 3).trans rfl
        have b4 := (blk_cell bk0 4).trans rfl
        clear f0 bk0
        go_enter Tryz.func15, Tryz.ntmps15
        go_wp2_with fail
        rw [← hW0]
        clear hW0
        go_wp2_with (first
          | (go_at_call 30; refine (request_Get.calls a0_0 a0_1 a0_2 A0_3 c0_3 l0_3 A0_4 c0_4 l0_4 authB v1 vb W0 (Kd.C_below R1.out (F0.out.below (Nat.le_refl _) (fun _ _ => id))) hc0_3 (Kd.C_below R2.out (F0.out.below (Nat.le_refl _) (fun _ _ => id))) hc0_4 HV.out).mono ?_; clear HV; rintro e w1 ⟨rfl, hb1⟩
             have F1 := Lib.hid (F0.out.trans (Fr.of_below0 hb1))
             have BK1 := Lib.hid ((Fr.of_below0 hb1).heap BK0.out id)
             clear hb1 F0 BK0 b0 b1 b2 b3 b4)
          | (go_at_call 7; refine (sigv4_ReadAuth.calls k v1 x1 x2 x3 x4 x5 w1 HA.out (.mk ⟨m, F1.out.cell hm id⟩)).mono ?_; clear HA; rintro e w2 ⟨u, rfl, hR2, hb2⟩
             obtain ⟨XA, XC, rfl⟩ := Kd.R_slice hR2
             obtain ⟨w3, hw3⟩ : ∃ w3, w2.alloc (.cells #[.string x1, .string x2, .slice XA x3.length XC, .string x4] 26) = w3 := ⟨_, rfl⟩
             have f23 : Fr (fun _ => False) w1 w3 := (Fr.of_below0 hb2).trans (by rw [← hw3]; exact (Fr.refl _ _).alloc _)
             have f2b : Fr (fun _ => False) w2 w3 := by rw [← hw3]; exact (Fr.refl _ _).alloc _
             have F3 := Lib.hid (F1.out.trans f23)
             have bk3 := f23.heap BK1.out id
             have AK3 := Lib.hid (show w3.heap[w2.heap.size]? = some (.cells #[.string x1, .string x2, .slice XA x3.length XC, .string x4] 26 (0, 0)) by rw [← hw3]; exact heap_alloc_new w2 _)
             have HR3 := Lib.hid (Kd.R_below hR2 (f2b.below (Nat.le_refl _) (fun _ _ => id)))
             have BK3 := Lib.hid bk3
             have b0 := (blk_cell bk3 0).trans rfl
             have b1 := (blk_cell bk3 1).trans rfl
             have b2 := (blk_cell bk3 2).trans rfl
             have b3 := (blk_cell bk3 3).trans rfl
             have b4 := (blk_cell bk3 4).trans rfl
             clear hb2 F1 BK1 hR2 f23 f2b bk3)
          | (go_at_call 30; refine (request_Get.calls a0_0 a0_1 a0_2 A0_3 c0_3 l0_3 A0_4 c0_4 l0_4 xdateB d1 db w3 (Kd.C_below R1.out (F3.out.below (Nat.le_refl _) (fun _ _ => id))) hc0_3 (Kd.C_below R2.out (F3.out.below (Nat.le_refl _) (fun _ _ => id))) hc0_4 HD.out).mono ?_; clear HD; rintro e w4 ⟨rfl, hb4⟩
             have f4 : Fr (fun _ => False) w3 w4 := Fr.of_below0 hb4
             have F4 := Lib.hid (F3.out.trans f4)
             have BK4 := Lib.hid (f4.heap BK3.out id)
             have AK4 := Lib.hid (f4.heap AK3.out id)
             have HR4 := Lib.hid (Kd.R_below HR3.out (f4.below (Nat.le_refl _) (fun _ _ => id)))
             clear hb4 f4 F3 BK3 AK3 HR3 b0 b1 b2 b3 b4)
          | (go_at_call 35; refine (clock_Read.calls d1 t1 t2 w4 HT.out).mono ?_; clear HT; rintro e w5 ⟨rfl, hb5⟩
             have f5 : Fr (fun _ => False) w4 w5 := Fr.of_below0 hb5
             have F5 := Lib.hid (F4.out.trans f5)
             have BK5 := Lib.hid (f5.heap BK4.out id)
             have AK5 := Lib.hid (f5.heap AK4.out id)
             have HR5 := Lib.hid (Kd.R_below HR4.out (f5.below (Nat.le_refl _) (fun _ _ => id)))
             clear hb5 f5 F4 BK4 AK4 HR4)
          | (go_at_call 36; refine (or2 x5 t2 w5).mono ?_; rintro e w6 ⟨rfl, h6⟩; rw [HO.out]
             have f6 : Fr (fun _ => False) w5 w6 := by rw [← h6]; exact (Fr.refl _ _).alloc _
             have F6 := Lib.hid (F5.out.trans f6)
             have BK6 := Lib.hid (f6.heap BK5.out id)
             have AK6 := Lib.hid (f6.heap AK5.out id)
             have HR6 := Lib.hid (Kd.R_below HR5.out (f6.below (Nat.le_refl _) (fun _ _ => id)))
             clear h6 f6 F5 BK5 AK5 HR5))
        have e1 := (blk_cell AK6.out 1).trans rfl
        have e2 := (blk_cell AK6.out 2).trans rfl
        have h8i : (8 : Int) ≤ d1.size := by omega
        go_region
        go_wp2_with (first
          | (go_at_call 37; refine (slices_Contains_string_string.calls k XA XC x3 xdateB _ w6.drew (Kd.C_drew (Kd.R_reads' HR6.out).2.2) (Kd.R_reads' HR6.out).2.1 HC.out).mono ?_; clear HC; rintro e w7 ⟨rfl, hd7⟩
             have f7 : Fr (fun _ => False) w6 w7 := (Fr.refl _ _).drew.trans (Fr.of_below0 hd7.below)
             have F7 := Lib.hid (F6.out.trans f7)
             have BK7 := Lib.hid (f7.heap BK6.out id)
             have AK7 := Lib.hid (f7.heap AK6.out id)
             have HR7 := Lib.hid (Kd.R_below HR6.out (f7.below (Nat.le_refl _) (fun _ _ => id)))
             clear hd7 f7 F6 BK6 AK6 HR6 e1 e2)
          | (go_at_call 38; refine (clock_Near.calls t1 a2 900 _ w7 HN.out).mono ?_; clear HN; rintro e w8 ⟨rfl, hb8⟩
             have f8 : Fr (fun _ => False) w7 w8 := Fr.of_below0 hb8
             have F8 := Lib.hid (F7.out.trans f8)
             have BK8 := Lib.hid (f8.heap BK7.out id)
             have AK8 := Lib.hid (f8.heap AK7.out id)
             have HR8 := Lib.hid (Kd.R_below HR7.out (f8.below (Nat.le_refl _) (fun _ _ => id)))
             have b0 := (blk_cell BK8.out 0).trans rfl
             have b1 := (blk_cell BK8.out 1).trans rfl
             have b2 := (blk_cell BK8.out 2).trans rfl
             have b3 := (blk_cell BK8.out 3).trans rfl
             have b4 := (blk_cell BK8.out 4).trans rfl
             have e2 := (blk_cell AK8.out 2).trans rfl
             clear hb8 f8 F7 BK7 AK7 HR7)
          | (go_at_call 33; refine (sigv4_Sign.calls k a1 a0_0 a0_1 a0_2 A0_3 c0_3 l0_3 A0_4 c0_4 l0_4 XA XC x3 t1 s1 s2 w8 (Kd.C_below R1.out (F8.out.below (Nat.le_refl _) (fun _ _ => id))) hc0_3 (Kd.C_below R2.out (F8.out.below (Nat.le_refl _) (fun _ _ => id))) hc0_4 (Kd.R_reads' HR8.out).2.2 (Kd.R_reads' HR8.out).2.1 HS.out).mono ?_; clear HS; rintro e w9 ⟨rfl, hb9⟩
             have f9 : Fr (fun _ => False) w8 w9 := Fr.of_below0 hb9
             have F9 := Lib.hid (F8.out.trans f9)
             have BK9 := Lib.hid (f9.heap BK8.out id)
             have AK9 := Lib.hid (f9.heap AK8.out id)
             have HR9 := Lib.hid (Kd.R_below HR8.out (f9.below (Nat.le_refl _) (fun _ _ => id)))
             have e3 := (blk_cell AK9.out 3).trans rfl
             clear hb9 f9 F8 BK8 AK8 HR8 b0 b1 b2 b3 b4 e2))
        go_ret
        exact ⟨rfl, F9.out.below (Nat.le_refl _) (fun _ _ => id)⟩
      case pos =>
      subst hs2
      rw [if_pos rfl] at h
      split at h
      case isFalse => cases h
      case isTrue hsz0 =>
      have hsz := Lib.hid hsz0
      clear hsz0
      cases hr : digest_Same.f k (bytesOf s1) (bytesOf x4) with
      | none => rw [hr] at h; cases h
      | some b =>
      rw [hr, Option.bind_some] at h
      have HQ := Lib.hid hr
      clear hr
      have hconv := fun W (s : ByteArray) => Lib.run_convert_string_bytes (P := Tryz.prog) W 9 37 5 s Tryz.underlying9 Tryz.underlying37 Tryz.underlying5
      have SM : ∀ (A0 : Option Addr) (c0 : Nat) (A1 : Option Addr) (c1 : Nat) (W : World), Kd.C (Kd.int .u8) W A0 s1.size (bytesOf s1) → s1.size ≤ c0 → Kd.C (Kd.int .u8) W A1 x4.size (bytesOf x4) → x4.size ≤ c1 →
          Calls Tryz.prog 39 #[.slice A0 s1.size c0, .slice A1 x4.size c1] W fun e w' => e = .returned (.bool b) ∧ Below W.heap.size W w' := by
        intro A0 c0 A1 c1 W g1 g2 g3 g4
        have := digest_Same.calls k A0 c0 (bytesOf s1) A1 c1 (bytesOf x4) b W
        rw [bytesOf_length, bytesOf_length] at this
        exact (this g1 g2 g3 g4 HQ.out).mono fun e w' ⟨i1, i2⟩ => ⟨i1, i2.below⟩
      have SMH := Lib.hid SM
      clear SM
      obtain ⟨W0, hW0⟩ : ∃ W0, W0 = w.alloc (.cells #[.string a0_0, .string a0_1, .string a0_2, .slice A0_3 l0_3.length c0_3, .slice A0_4 l0_4.length c0_4] 44) := ⟨_, rfl⟩
      have bk0 : W0.heap[w.heap.size]? = some (.cells #[.string a0_0, .string a0_1, .string a0_2, .slice A0_3 l0_3.length c0_3, .slice A0_4 l0_4.length c0_4] 44 (0, 0)) := by rw [hW0]; exact heap_alloc_new w _
      have f0 : Fr (fun _ => False) w W0 := by rw [hW0]; exact (Fr.refl _ _).alloc _
      have F0 := Lib.hid f0
      have BK0 := Lib.hid bk0
      have b0 := (blk_cell bk0 0).trans rfl
      have b1 := (blk_cell bk0 1).trans rfl
      have b2 := (blk_cell bk0 2).trans rfl
      have b3 := (blk_cell bk0 3).trans rfl
      have b4 := (blk_cell bk0 4).trans rfl
      clear f0 bk0
      go_enter Tryz.func15, Tryz.ntmps15
      go_wp2_with fail
      rw [← hW0]
      clear hW0
      go_wp2_with (first
        | (go_at_call 30; refine (request_Get.calls a0_0 a0_1 a0_2 A0_3 c0_3 l0_3 A0_4 c0_4 l0_4 authB v1 vb W0 (Kd.C_below R1.out (F0.out.below (Nat.le_refl _) (fun _ _ => id))) hc0_3 (Kd.C_below R2.out (F0.out.below (Nat.le_refl _) (fun _ _ => id))) hc0_4 HV.out).mono ?_; clear HV; rintro e w1 ⟨rfl, hb1⟩
           have F1 := Lib.hid (F0.out.trans (Fr.of_below0 hb1))
           have BK1 := Lib.hid ((Fr.of_below0 hb1).heap BK0.out id)
           clear hb1 F0 BK0 b0 b1 b2 b3 b4)
        | (go_at_call 7; refine (sigv4_ReadAuth.calls k v1 x1 x2 x3 x4 x5 w1 HA.out (.mk ⟨m, F1.out.cell hm id⟩)).mono ?_; clear HA; rintro e w2 ⟨u, rfl, hR2, hb2⟩
           obtain ⟨XA, XC, rfl⟩ := Kd.R_slice hR2
           obtain ⟨w3, hw3⟩ : ∃ w3, w2.alloc (.cells #[.string x1, .string x2, .slice XA x3.length XC, .string x4] 26) = w3 := ⟨_, rfl⟩
           have f23 : Fr (fun _ => False) w1 w3 := (Fr.of_below0 hb2).trans (by rw [← hw3]; exact (Fr.refl _ _).alloc _)
           have f2b : Fr (fun _ => False) w2 w3 := by rw [← hw3]; exact (Fr.refl _ _).alloc _
           have F3 := Lib.hid (F1.out.trans f23)
           have bk3 := f23.heap BK1.out id
           have AK3 := Lib.hid (show w3.heap[w2.heap.size]? = some (.cells #[.string x1, .string x2, .slice XA x3.length XC, .string x4] 26 (0, 0)) by rw [← hw3]; exact heap_alloc_new w2 _)
           have HR3 := Lib.hid (Kd.R_below hR2 (f2b.below (Nat.le_refl _) (fun _ _ => id)))
           have BK3 := Lib.hid bk3
           have b0 := (blk_cell bk3 0).trans rfl
           have b1 := (blk_cell bk3 1).trans rfl
           have b2 := (blk_cell bk3 2).trans rfl
           have b3 := (blk_cell bk3 3).trans rfl
           have b4 := (blk_cell bk3 4).trans rfl
           clear hb2 F1 BK1 hR2 f23 f2b bk3)
        | (go_at_call 30; refine (request_Get.calls a0_0 a0_1 a0_2 A0_3 c0_3 l0_3 A0_4 c0_4 l0_4 xdateB d1 db w3 (Kd.C_below R1.out (F3.out.below (Nat.le_refl _) (fun _ _ => id))) hc0_3 (Kd.C_below R2.out (F3.out.below (Nat.le_refl _) (fun _ _ => id))) hc0_4 HD.out).mono ?_; clear HD; rintro e w4 ⟨rfl, hb4⟩
           have f4 : Fr (fun _ => False) w3 w4 := Fr.of_below0 hb4
           have F4 := Lib.hid (F3.out.trans f4)
           have BK4 := Lib.hid (f4.heap BK3.out id)
           have AK4 := Lib.hid (f4.heap AK3.out id)
           have HR4 := Lib.hid (Kd.R_below HR3.out (f4.below (Nat.le_refl _) (fun _ _ => id)))
           clear hb4 f4 F3 BK3 AK3 HR3 b0 b1 b2 b3 b4)
        | (go_at_call 35; refine (clock_Read.calls d1 t1 t2 w4 HT.out).mono ?_; clear HT; rintro e w5 ⟨rfl, hb5⟩
           have f5 : Fr (fun _ => False) w4 w5 := Fr.of_below0 hb5
           have F5 := Lib.hid (F4.out.trans f5)
           have BK5 := Lib.hid (f5.heap BK4.out id)
           have AK5 := Lib.hid (f5.heap AK4.out id)
           have HR5 := Lib.hid (Kd.R_below HR4.out (f5.below (Nat.le_refl _) (fun _ _ => id)))
           clear hb5 f5 F4 BK4 AK4 HR4)
        | (go_at_call 36; refine (or2 x5 t2 w5).mono ?_; rintro e w6 ⟨rfl, h6⟩; rw [HO.out]
           have f6 : Fr (fun _ => False) w5 w6 := by rw [← h6]; exact (Fr.refl _ _).alloc _
           have F6 := Lib.hid (F5.out.trans f6)
           have BK6 := Lib.hid (f6.heap BK5.out id)
           have AK6 := Lib.hid (f6.heap AK5.out id)
           have HR6 := Lib.hid (Kd.R_below HR5.out (f6.below (Nat.le_refl _) (fun _ _ => id)))
           clear h6 f6 F5 BK5 AK5 HR5))
      have e1 := (blk_cell AK6.out 1).trans rfl
      have e2 := (blk_cell AK6.out 2).trans rfl
      have h8i : (8 : Int) ≤ d1.size := by omega
      go_region
      go_wp2_with (first
        | (go_at_call 37; refine (slices_Contains_string_string.calls k XA XC x3 xdateB _ w6.drew (Kd.C_drew (Kd.R_reads' HR6.out).2.2) (Kd.R_reads' HR6.out).2.1 HC.out).mono ?_; clear HC; rintro e w7 ⟨rfl, hd7⟩
           have f7 : Fr (fun _ => False) w6 w7 := (Fr.refl _ _).drew.trans (Fr.of_below0 hd7.below)
           have F7 := Lib.hid (F6.out.trans f7)
           have BK7 := Lib.hid (f7.heap BK6.out id)
           have AK7 := Lib.hid (f7.heap AK6.out id)
           have HR7 := Lib.hid (Kd.R_below HR6.out (f7.below (Nat.le_refl _) (fun _ _ => id)))
           clear hd7 f7 F6 BK6 AK6 HR6 e1 e2)
        | (go_at_call 38; refine (clock_Near.calls t1 a2 900 _ w7 HN.out).mono ?_; clear HN; rintro e w8 ⟨rfl, hb8⟩
           have f8 : Fr (fun _ => False) w7 w8 := Fr.of_below0 hb8
           have F8 := Lib.hid (F7.out.trans f8)
           have BK8 := Lib.hid (f8.heap BK7.out id)
           have AK8 := Lib.hid (f8.heap AK7.out id)
           have HR8 := Lib.hid (Kd.R_below HR7.out (f8.below (Nat.le_refl _) (fun _ _ => id)))
           have b0 := (blk_cell BK8.out 0).trans rfl
           have b1 := (blk_cell BK8.out 1).trans rfl
           have b2 := (blk_cell BK8.out 2).trans rfl
           have b3 := (blk_cell BK8.out 3).trans rfl
           have b4 := (blk_cell BK8.out 4).trans rfl
           have e2 := (blk_cell AK8.out 2).trans rfl
           clear hb8 f8 F7 BK7 AK7 HR7)
        | (go_at_call 33; refine (sigv4_Sign.calls k a1 a0_0 a0_1 a0_2 A0_3 c0_3 l0_3 A0_4 c0_4 l0_4 XA XC x3 t1 s1 0 w8 (Kd.C_below R1.out (F8.out.below (Nat.le_refl _) (fun _ _ => id))) hc0_3 (Kd.C_below R2.out (F8.out.below (Nat.le_refl _) (fun _ _ => id))) hc0_4 (Kd.R_reads' HR8.out).2.2 (Kd.R_reads' HR8.out).2.1 HS.out).mono ?_; clear HS; rintro e w9 ⟨rfl, hb9⟩
           have f9 : Fr (fun _ => False) w8 w9 := Fr.of_below0 hb9
           have F9 := Lib.hid (F8.out.trans f9)
           have BK9 := Lib.hid (f9.heap BK8.out id)
           have AK9 := Lib.hid (f9.heap AK8.out id)
           have HR9 := Lib.hid (Kd.R_below HR8.out (f9.below (Nat.le_refl _) (fun _ _ => id)))
           have e3 := (blk_cell (((Fr.refl (fun _ => False) w9).bytesWorld 5 s1).heap AK9.out id) 3).trans rfl
           clear hb9 f9 F8 BK8 AK8 HR8 b0 b1 b2 b3 b4 e2)
        | (go_at_call 39; with_reducible refine (SMH.out _ _ _ _ _ (Kd.C_below (conv_C w9 s1 hsz.out.1) (((Fr.refl (fun _ => False) (Lib.bytesWorld w9 5 s1)).bytesWorld 5 x4).below (Nat.le_refl _) (fun _ _ => id))) (grownCap_ge _ _ _ _) (conv_C (Lib.bytesWorld w9 5 s1) x4 hsz.out.2) (grownCap_ge _ _ _ _)).mono ?_; rintro e w11 ⟨rfl, hb11⟩
           have F11 := Lib.hid (((F9.out.bytesWorld 5 s1).bytesWorld 5 x4).trans (Fr.of_below0 hb11))
           clear hb11))
      all_goals
        rename_i hb9
        go_ret
        refine ⟨?_, F11.out.below (Nat.le_refl _) (fun _ _ => id)⟩
        cases b
        all_goals first
          | (exact congrArg (fun z => Ending.returned (.int .i64 z)) (Option.some.inj h))
          | (cases hb9)
def stelelaw06_alive.f (k : Nat)  : Option (Bool) := (sigv4_Attach.f k (⟨#[71, 69, 84]⟩ : ByteArray) (⟨#[47, 98]⟩ : ByteArray) (⟨#[]⟩ : ByteArray) (([(⟨(⟨#[104, 111, 115, 116]⟩ : ByteArray), (⟨#[104]⟩ : ByteArray)⟩ : S55)] : List (S55))) ([] : List Int) (⟨#[97, 49]⟩ : ByteArray) (⟨#[115]⟩ : ByteArray) 1440938160).bind fun bt208 => (if bt208.2.2.2.2.2 = 0 then ((sigv4_Verify.f k bt208.1 bt208.2.1 bt208.2.2.1 bt208.2.2.2.1 bt208.2.2.2.2.1 (⟨#[115]⟩ : ByteArray) 1440938160).bind fun t219 => (if t219 = 0 then ((sigv4_Verify.f k bt208.1 bt208.2.1 bt208.2.2.1 bt208.2.2.2.1 bt208.2.2.2.2.1 (⟨#[116]⟩ : ByteArray) 1440938160).bind fun t220 => (some (t220 == 20))) else (some false))) else (some false))
set_option maxHeartbeats 8000000 in
set_option maxRecDepth 100000 in
theorem stelelaw06_alive.calls (k : Nat)  (r : Bool) (w : World) (h : stelelaw06_alive.f k  = some r) (hM : Aside0 (MaxOk w)) :
  Calls Tryz.prog 6 #[] w fun e w' => e = .returned (.bool r) ∧ Below w.heap.size w w' := by
 have hu55 := Tryz.underlying55
 have hu44 := Tryz.underlying44
 have HB := Aside0.mk (Below.refl w.heap.size w)
 have H : ((sigv4_Attach.f k (⟨#[71, 69, 84]⟩ : ByteArray) (⟨#[47, 98]⟩ : ByteArray) (⟨#[]⟩ : ByteArray) (([(⟨(⟨#[104, 111, 115, 116]⟩ : ByteArray), (⟨#[104]⟩ : ByteArray)⟩ : S55)] : List (S55))) ([] : List Int) (⟨#[97, 49]⟩ : ByteArray) (⟨#[115]⟩ : ByteArray) 1440938160).bind fun bt208 => (if bt208.2.2.2.2.2 = 0 then ((sigv4_Verify.f k bt208.1 bt208.2.1 bt208.2.2.1 bt208.2.2.2.1 bt208.2.2.2.2.1 (⟨#[115]⟩ : ByteArray) 1440938160).bind fun t219 => (if t219 = 0 then ((sigv4_Verify.f k bt208.1 bt208.2.1 bt208.2.2.1 bt208.2.2.2.1 bt208.2.2.2.2.1 (⟨#[116]⟩ : ByteArray) 1440938160).bind fun t220 => (some (t220 == 20))) else (some false))) else (some false))) = some r := h
 clear h
 obtain ⟨y205, hy205⟩ : ∃ y_ : List (S55), y_ = (([(⟨(⟨#[104, 111, 115, 116]⟩ : ByteArray), (⟨#[104]⟩ : ByteArray)⟩ : S55)] : List (S55))) := ⟨_, rfl⟩
 replace H : ((sigv4_Attach.f k (⟨#[71, 69, 84]⟩ : ByteArray) (⟨#[47, 98]⟩ : ByteArray) (⟨#[]⟩ : ByteArray) y205 ([] : List Int) (⟨#[97, 49]⟩ : ByteArray) (⟨#[115]⟩ : ByteArray) 1440938160).bind fun bt208 => (if bt208.2.2.2.2.2 = 0 then ((sigv4_Verify.f k bt208.1 bt208.2.1 bt208.2.2.1 bt208.2.2.2.1 bt208.2.2.2.2.1 (⟨#[115]⟩ : ByteArray) 1440938160).bind fun t219 => (if t219 = 0 then ((sigv4_Verify.f k bt208.1 bt208.2.1 bt208.2.2.1 bt208.2.2.2.1 bt208.2.2.2.2.1 (⟨#[116]⟩ : ByteArray) 1440938160).bind fun t220 => (some (t220 == 20))) else (some false))) else (some false))) = some r := by first | (rw [hy205]; with_reducible exact H) | (have H2_ := (Option.bind_some _ _).symm.trans H; rw [hy205]; with_reducible exact H2_) | (have H2_ := (Option.bind_some _ _).symm.trans H; with_reducible exact H2_) | with_reducible exact H | (rw [hy205]; exact H) | exact H
 have Ny205 := Aside0.mk hy205
 clear hy205
 replace H := Option.bind_eq_some_iff.mp H
 obtain ⟨⟨t208, t209, t210, t211, t214, t217⟩, A10, H⟩ := H
 replace H : (if t217 = 0 then ((sigv4_Verify.f k t208 t209 t210 t211 t214 (⟨#[115]⟩ : ByteArray) 1440938160).bind fun t219 => (if t219 = 0 then ((sigv4_Verify.f k t208 t209 t210 t211 t214 (⟨#[116]⟩ : ByteArray) 1440938160).bind fun t220 => (some (t220 == 20))) else (some false))) else (some false)) = some r := H
 have A1 := Aside0.mk A10
 clear A10
 by_cases c2 : t217 = 0
 rotate_left
 ·rw [if_neg c2] at H
  have c2b0 : (t217 == 0) = false := beq_eq_false_iff_ne.mpr c2
  have c2b1 : (t217 != 0) = true := bne_iff_ne.mpr c2
  obtain rfl := Option.some.inj H
  go_enter Tryz.func6, Tryz.ntmps6
  go_wp2_with (first | ((with_reducible refine gate_dst (N := 5) rfl ?_); refine Kd.R_lit k55 _ 55 ?hg (N := 5) ?hd (xs := ([(⟨(⟨#[104, 111, 115, 116]⟩ : ByteArray), (⟨#[104]⟩ : ByteArray)⟩ : S55)] : List (S55))) (inner := [.string (⟨#[104, 111, 115, 116]⟩ : ByteArray), .string (⟨#[104]⟩ : ByteArray)]) (ok := fun _ => True) (okp := fun _ => True) ?hr ?hp (fun _ hk => hk) trivial (Below.refl _ _) (Nat.le_refl _) (by simp) ?_; (case hd => rfl); (case hg => rfl); (case hr => first | (go_simp; done) | (go_simp; rfl)); (case hp => exact (Reps.c2 (show Kd.M k55 _ _ _ (⟨(⟨#[104, 111, 115, 116]⟩ : ByteArray), (⟨#[104]⟩ : ByteArray)⟩ : S55) [.string (⟨#[104, 111, 115, 116]⟩ : ByteArray), .string (⟨#[104]⟩ : ByteArray)] from (k55_mkM _ _ _ (⟨(⟨#[104, 111, 115, 116]⟩ : ByteArray), (⟨#[104]⟩ : ByteArray)⟩ : S55) )) (Reps.none _ _))); intro v206 w26 ho27 hb hg_ hnew_; clear hg_ hnew_; (first | rw [← Ny205.out] at ho27 | (simp only [Int.reduceToNat] at ho27; rw [← Ny205.out] at ho27)); have n0_ := Aside0.mk (Kd.R_lower ho27 (below_size hb0_)); have n1_ := Aside0.mk (below_step hb0_ hb); clear HB; have HO207 := n0_; have HB := n1_; clear n0_ n1_; clear hb ho27; obtain ⟨Ao28, co28, eo28⟩ := Kd.R_slice HO207.out; subst eo28) | ((with_reducible refine gate_callee (f := 13) rfl ?_); refine goesL_ (some 7) rfl rfl Tryz.func13 (by kernel_rfl) rfl #[.agg #[.string (⟨#[71, 69, 84]⟩ : ByteArray), .string (⟨#[47, 98]⟩ : ByteArray), .string (⟨#[]⟩ : ByteArray), .slice Ao28 y205.length co28, .slice none 0 0], .string (⟨#[97, 49]⟩ : ByteArray), .string (⟨#[115]⟩ : ByteArray), .int .u64 1440938160] rfl (by (try simp only [List.map_toArray, List.map_cons, List.map_nil]); first | done | rfl | (simp only [List.length_drop, List.length_take]; rfl)) ?_; (refine (sigv4_Attach.calls _ _ _ _ _ _ _ _ _ _ _ _ _ _ _ _ _ _ _ _ ?side1 ?side2 ?side3 ?side4 A1.out).mono ?_); (case side1 => repeat (first | exact (Kd.R_reads' HO207.out).2.2 | (with_reducible refine Kd.C_alloc ?_ _) | (with_reducible refine Kd.C_drewN ?_ _) | (with_reducible refine Kd.C_drew ?_))); (case side2 => exact (Kd.R_reads' HO207.out).2.1); (case side3 => exact Kd.C_nil _ _); (case side4 => exact Nat.le_refl _); rintro e w29 ⟨v212, v215, rfl, ho0, ho1, hb⟩; refine ⟨_, rfl, ?_⟩; have n0_ := Aside0.mk (Kd.R_elder' (by (with_reducible repeat (first | apply Kd.R_alloc | apply Kd.R_drewN | apply Kd.R_drew)); exact HO207.out) (Kd.R_base ho0) hb); have n1_ := Aside0.mk (Kd.R_lower (Kd.R_new' ho0 (Kd.R_lt (by (with_reducible repeat (first | apply Kd.R_alloc | apply Kd.R_drewN | apply Kd.R_drew)); exact HO207.out))) (below_size hb0_)); have n2_ := Aside0.mk (Kd.R_lower ho1 (below_size hb0_)); have n3_ := Aside0.mk (below_step hb0_ hb); clear HO207; clear HB; have HO207 := n0_; have HO213 := n1_; have HO216 := n2_; have HB := n3_; clear n0_ n1_ n2_ n3_; (try clear hb); (try clear hb2); (try clear hk); (try clear hi); (try clear ho0); (try clear ho1)) | ((with_reducible refine gate_dst (N := 1) rfl ?_); refine box_event ?hg (N := 1) ?hd (cs := #[.string (⟨#[]⟩ : ByteArray), .string (⟨#[]⟩ : ByteArray), .string (⟨#[]⟩ : ByteArray), .slice none 0 0, .slice none 0 0]) (t := 44) ?hr ?_; (case hd => rfl); (case hg => rfl); (case hr => first | (go_simp; done) | (go_simp; rfl)); intro gb218 hg w30 hbox hb; have n0_ := Aside0.mk (Kd.R_below (by (with_reducible repeat (first | apply Kd.R_alloc | apply Kd.R_drewN | apply Kd.R_drew)); exact HO207.out) hb); have n1_ := Aside0.mk (Kd.R_below (by (with_reducible repeat (first | apply Kd.R_alloc | apply Kd.R_drewN | apply Kd.R_drew)); exact HO213.out) hb); have n2_ := Aside0.mk (Kd.R_below (by (with_reducible repeat (first | apply Kd.R_alloc | apply Kd.R_drewN | apply Kd.R_drew)); exact HO216.out) hb); have n3_ := Aside0.mk (below_step hb0_ hb); have n4_ := Aside0.mk (hbox); have n5_ := Aside0.mk ((by rw [hg]; exact (below_size hb0_) : w.heap.size ≤ gb218)); have n6_ := Aside0.mk ((by rw [hg]; exact (below_size hb0_) : w.heap.size ≤ gb218)); clear HO207; clear HO213; clear HO216; clear HB; have HO207 := n0_; have HO213 := n1_; have HO216 := n2_; have HB := n3_; have BK218 := n4_; have GW218 := n5_; have GE218 := n6_; clear n0_ n1_ n2_ n3_ n4_ n5_ n6_; clear hb hbox hg; have hcz31_0 : w30.cell? ⟨gb218, 0, none⟩ = some (.string (⟨#[]⟩ : ByteArray)) := (blk_cell BK218.out 0).trans rfl; have hcz31_1 : w30.cell? ⟨gb218, 1, none⟩ = some (.string (⟨#[]⟩ : ByteArray)) := (blk_cell BK218.out 1).trans rfl; have hcz31_2 : w30.cell? ⟨gb218, 2, none⟩ = some (.string (⟨#[]⟩ : ByteArray)) := (blk_cell BK218.out 2).trans rfl; have hcz31_3 : w30.cell? ⟨gb218, 3, none⟩ = some (.slice none 0 0) := (blk_cell BK218.out 3).trans rfl; have hcz31_4 : w30.cell? ⟨gb218, 4, none⟩ = some (.slice none 0 0) := (blk_cell BK218.out 4).trans rfl; have hfz31_0 := blk_frozen BK218.out 0; have hfz31_1 := blk_frozen BK218.out 1; have hfz31_2 := blk_frozen BK218.out 2; have hfz31_3 := blk_frozen BK218.out 3; have hfz31_4 := blk_frozen BK218.out 4; obtain ⟨Ao32, co32, eo32⟩ := Kd.R_slice HO213.out; subst eo32; obtain ⟨Ao33, co33, eo33⟩ := Kd.R_slice HO216.out; subst eo33))
  go_ret
  exact ⟨by first | rfl | (simp [errW_none, errW_some] <;> rfl) | (simp [*, errW_none, errW_some] <;> rfl), hb7_⟩
 rw [if_pos c2] at H
 have c2b0 : (t217 == 0) = true := beq_iff_eq.mpr c2
 have c2b1 : (t217 != 0) = false := bne_eq_false_iff_eq.mpr c2
 clear c2
 replace H := Option.bind_eq_some_iff.mp H
 obtain ⟨t219, A30, H⟩ := H
 replace H : (if t219 = 0 then ((sigv4_Verify.f k t208 t209 t210 t211 t214 (⟨#[116]⟩ : ByteArray) 1440938160).bind fun t220 => (some (t220 == 20))) else (some false)) = some r := H
 have A3 := Aside0.mk A30
 clear A30
 by_cases c4 : t219 = 0
 rotate_left
 ·rw [if_neg c4] at H
  have c4b0 : (t219 == 0) = false := beq_eq_false_iff_ne.mpr c4
  have c4b1 : (t219 != 0) = true := bne_iff_ne.mpr c4
  obtain rfl := Option.some.inj H
  go_enter Tryz.func6, Tryz.ntmps6
  go_wp2_with (first | ((with_reducible refine gate_dst (N := 5) rfl ?_); refine Kd.R_lit k55 _ 55 ?hg (N := 5) ?hd (xs := ([(⟨(⟨#[104, 111, 115, 116]⟩ : ByteArray), (⟨#[104]⟩ : ByteArray)⟩ : S55)] : List (S55))) (inner := [.string (⟨#[104, 111, 115, 116]⟩ : ByteArray), .string (⟨#[104]⟩ : ByteArray)]) (ok := fun _ => True) (okp := fun _ => True) ?hr ?hp (fun _ hk => hk) trivial (Below.refl _ _) (Nat.le_refl _) (by simp) ?_; (case hd => rfl); (case hg => rfl); (case hr => first | (go_simp; done) | (go_simp; rfl)); (case hp => exact (Reps.c2 (show Kd.M k55 _ _ _ (⟨(⟨#[104, 111, 115, 116]⟩ : ByteArray), (⟨#[104]⟩ : ByteArray)⟩ : S55) [.string (⟨#[104, 111, 115, 116]⟩ : ByteArray), .string (⟨#[104]⟩ : ByteArray)] from (k55_mkM _ _ _ (⟨(⟨#[104, 111, 115, 116]⟩ : ByteArray), (⟨#[104]⟩ : ByteArray)⟩ : S55) )) (Reps.none _ _))); intro v206 w17 ho18 hb hg_ hnew_; clear hg_ hnew_; (first | rw [← Ny205.out] at ho18 | (simp only [Int.reduceToNat] at ho18; rw [← Ny205.out] at ho18)); have n0_ := Aside0.mk (Kd.R_lower ho18 (below_size hb0_)); have n1_ := Aside0.mk (below_step hb0_ hb); clear HB; have HO207 := n0_; have HB := n1_; clear n0_ n1_; clear hb ho18; obtain ⟨Ao19, co19, eo19⟩ := Kd.R_slice HO207.out; subst eo19) | ((with_reducible refine gate_callee (f := 13) rfl ?_); refine goesL_ (some 7) rfl rfl Tryz.func13 (by kernel_rfl) rfl #[.agg #[.string (⟨#[71, 69, 84]⟩ : ByteArray), .string (⟨#[47, 98]⟩ : ByteArray), .string (⟨#[]⟩ : ByteArray), .slice Ao19 y205.length co19, .slice none 0 0], .string (⟨#[97, 49]⟩ : ByteArray), .string (⟨#[115]⟩ : ByteArray), .int .u64 1440938160] rfl (by (try simp only [List.map_toArray, List.map_cons, List.map_nil]); first | done | rfl | (simp only [List.length_drop, List.length_take]; rfl)) ?_; (refine (sigv4_Attach.calls _ _ _ _ _ _ _ _ _ _ _ _ _ _ _ _ _ _ _ _ ?side1 ?side2 ?side3 ?side4 A1.out).mono ?_); (case side1 => repeat (first | exact (Kd.R_reads' HO207.out).2.2 | (with_reducible refine Kd.C_alloc ?_ _) | (with_reducible refine Kd.C_drewN ?_ _) | (with_reducible refine Kd.C_drew ?_))); (case side2 => exact (Kd.R_reads' HO207.out).2.1); (case side3 => exact Kd.C_nil _ _); (case side4 => exact Nat.le_refl _); rintro e w20 ⟨v212, v215, rfl, ho0, ho1, hb⟩; refine ⟨_, rfl, ?_⟩; have n0_ := Aside0.mk (Kd.R_elder' (by (with_reducible repeat (first | apply Kd.R_alloc | apply Kd.R_drewN | apply Kd.R_drew)); exact HO207.out) (Kd.R_base ho0) hb); have n1_ := Aside0.mk (Kd.R_lower (Kd.R_new' ho0 (Kd.R_lt (by (with_reducible repeat (first | apply Kd.R_alloc | apply Kd.R_drewN | apply Kd.R_drew)); exact HO207.out))) (below_size hb0_)); have n2_ := Aside0.mk (Kd.R_lower ho1 (below_size hb0_)); have n3_ := Aside0.mk (below_step hb0_ hb); clear HO207; clear HB; have HO207 := n0_; have HO213 := n1_; have HO216 := n2_; have HB := n3_; clear n0_ n1_ n2_ n3_; (try clear hb); (try clear hb2); (try clear hk); (try clear hi); (try clear ho0); (try clear ho1)) | ((with_reducible refine gate_dst (N := 1) rfl ?_); refine box_event ?hg (N := 1) ?hd (cs := #[.string (⟨#[]⟩ : ByteArray), .string (⟨#[]⟩ : ByteArray), .string (⟨#[]⟩ : ByteArray), .slice none 0 0, .slice none 0 0]) (t := 44) ?hr ?_; (case hd => rfl); (case hg => rfl); (case hr => first | (go_simp; done) | (go_simp; rfl)); intro gb218 hg w21 hbox hb; have n0_ := Aside0.mk (Kd.R_below (by (with_reducible repeat (first | apply Kd.R_alloc | apply Kd.R_drewN | apply Kd.R_drew)); exact HO207.out) hb); have n1_ := Aside0.mk (Kd.R_below (by (with_reducible repeat (first | apply Kd.R_alloc | apply Kd.R_drewN | apply Kd.R_drew)); exact HO213.out) hb); have n2_ := Aside0.mk (Kd.R_below (by (with_reducible repeat (first | apply Kd.R_alloc | apply Kd.R_drewN | apply Kd.R_drew)); exact HO216.out) hb); have n3_ := Aside0.mk (below_step hb0_ hb); have n4_ := Aside0.mk (hbox); have n5_ := Aside0.mk ((by rw [hg]; exact (below_size hb0_) : w.heap.size ≤ gb218)); have n6_ := Aside0.mk ((by rw [hg]; exact (below_size hb0_) : w.heap.size ≤ gb218)); clear HO207; clear HO213; clear HO216; clear HB; have HO207 := n0_; have HO213 := n1_; have HO216 := n2_; have HB := n3_; have BK218 := n4_; have GW218 := n5_; have GE218 := n6_; clear n0_ n1_ n2_ n3_ n4_ n5_ n6_; clear hb hbox hg; have hcz22_0 : w21.cell? ⟨gb218, 0, none⟩ = some (.string (⟨#[]⟩ : ByteArray)) := (blk_cell BK218.out 0).trans rfl; have hcz22_1 : w21.cell? ⟨gb218, 1, none⟩ = some (.string (⟨#[]⟩ : ByteArray)) := (blk_cell BK218.out 1).trans rfl; have hcz22_2 : w21.cell? ⟨gb218, 2, none⟩ = some (.string (⟨#[]⟩ : ByteArray)) := (blk_cell BK218.out 2).trans rfl; have hcz22_3 : w21.cell? ⟨gb218, 3, none⟩ = some (.slice none 0 0) := (blk_cell BK218.out 3).trans rfl; have hcz22_4 : w21.cell? ⟨gb218, 4, none⟩ = some (.slice none 0 0) := (blk_cell BK218.out 4).trans rfl; have hfz22_0 := blk_frozen BK218.out 0; have hfz22_1 := blk_frozen BK218.out 1; have hfz22_2 := blk_frozen BK218.out 2; have hfz22_3 := blk_frozen BK218.out 3; have hfz22_4 := blk_frozen BK218.out 4; obtain ⟨Ao23, co23, eo23⟩ := Kd.R_slice HO213.out; subst eo23; obtain ⟨Ao24, co24, eo24⟩ := Kd.R_slice HO216.out; subst eo24) | (go_at_call 15; (with_reducible refine (sigv4_Verify.calls k t208 t209 t210 _ _ t211 _ _ t214 (⟨#[115]⟩ : ByteArray) 1440938160 t219 _ ?side1 ?side2 ?side3 ?side4 A3.out (mxk hM hb7_)).mono ?_); (case side1 => refine (Kd.R_reads' (e := 55) (base := w.heap.size) (ok := fun k_ => (True ∧ some k_ ≠ (.slice Ao19 y205.length co19 : Value).ownBlock)) (n := t211.length) (c := co23) ?_).2.2; exact (by (with_reducible repeat (first | apply Kd.R_alloc | apply Kd.R_drewN | apply Kd.R_drew)); exact (Kd.R_mono (Kd.R_far (p := ⟨gb218, 4, none⟩) (Kd.R_far (p := ⟨gb218, 3, none⟩) (Kd.R_far (p := ⟨gb218, 2, none⟩) (Kd.R_far (p := ⟨gb218, 1, none⟩) (Kd.R_far (p := ⟨gb218, 0, none⟩) (Kd.R_types HO213.out BK218.out (by decide)) (fun _ hk => hk.2) (.string t208)) (fun _ hk => hk.2) (.string t209)) (fun _ hk => hk.2) (.string t210)) (fun _ hk => hk.2) (.slice Ao23 t211.length co23)) (fun _ hk => hk.2) (.slice Ao24 t214.length co24)) (fun _ h_ => h_.1)))); (case side2 => exact (Kd.R_reads' HO213.out).2.1); (case side3 => refine (Kd.R_reads' (e := 5) (base := w.heap.size) (ok := fun k_ => True) (n := t214.length) (c := co24) ?_).2.2; exact (by (with_reducible repeat (first | apply Kd.R_alloc | apply Kd.R_drewN | apply Kd.R_drew)); exact (Kd.R_mono (Kd.R_far (p := ⟨gb218, 4, none⟩) (Kd.R_far (p := ⟨gb218, 3, none⟩) (Kd.R_far (p := ⟨gb218, 2, none⟩) (Kd.R_far (p := ⟨gb218, 1, none⟩) (Kd.R_far (p := ⟨gb218, 0, none⟩) (Kd.R_types HO216.out BK218.out (by decide)) (fun _ hk => hk.2) (.string t208)) (fun _ hk => hk.2) (.string t209)) (fun _ hk => hk.2) (.string t210)) (fun _ hk => hk.2) (.slice Ao23 t211.length co23)) (fun _ hk => hk.2) (.slice Ao24 t214.length co24)) (fun _ h_ => h_.1)))); (case side4 => exact (Kd.R_reads' HO216.out).2.1); rintro e w25 ⟨rfl, hb⟩; have n0_ := Aside0.mk (Kd.R_below (by (with_reducible repeat (first | apply Kd.R_alloc | apply Kd.R_drewN | apply Kd.R_drew)); exact (Kd.R_mono (Kd.R_far (p := ⟨gb218, 4, none⟩) (Kd.R_far (p := ⟨gb218, 3, none⟩) (Kd.R_far (p := ⟨gb218, 2, none⟩) (Kd.R_far (p := ⟨gb218, 1, none⟩) (Kd.R_far (p := ⟨gb218, 0, none⟩) (Kd.R_types HO207.out BK218.out (by decide)) (fun _ hk => hk.2) (.string t208)) (fun _ hk => hk.2) (.string t209)) (fun _ hk => hk.2) (.string t210)) (fun _ hk => hk.2) (.slice Ao23 t211.length co23)) (fun _ hk => hk.2) (.slice Ao24 t214.length co24)) (fun _ h_ => h_.1))) hb); have n1_ := Aside0.mk (Kd.R_below (by (with_reducible repeat (first | apply Kd.R_alloc | apply Kd.R_drewN | apply Kd.R_drew)); exact (Kd.R_mono (Kd.R_far (p := ⟨gb218, 4, none⟩) (Kd.R_far (p := ⟨gb218, 3, none⟩) (Kd.R_far (p := ⟨gb218, 2, none⟩) (Kd.R_far (p := ⟨gb218, 1, none⟩) (Kd.R_far (p := ⟨gb218, 0, none⟩) (Kd.R_types HO213.out BK218.out (by decide)) (fun _ hk => hk.2) (.string t208)) (fun _ hk => hk.2) (.string t209)) (fun _ hk => hk.2) (.string t210)) (fun _ hk => hk.2) (.slice Ao23 t211.length co23)) (fun _ hk => hk.2) (.slice Ao24 t214.length co24)) (fun _ h_ => h_.1))) hb); have n2_ := Aside0.mk (Kd.R_below (by (with_reducible repeat (first | apply Kd.R_alloc | apply Kd.R_drewN | apply Kd.R_drew)); exact (Kd.R_mono (Kd.R_far (p := ⟨gb218, 4, none⟩) (Kd.R_far (p := ⟨gb218, 3, none⟩) (Kd.R_far (p := ⟨gb218, 2, none⟩) (Kd.R_far (p := ⟨gb218, 1, none⟩) (Kd.R_far (p := ⟨gb218, 0, none⟩) (Kd.R_types HO216.out BK218.out (by decide)) (fun _ hk => hk.2) (.string t208)) (fun _ hk => hk.2) (.string t209)) (fun _ hk => hk.2) (.string t210)) (fun _ hk => hk.2) (.slice Ao23 t211.length co23)) (fun _ hk => hk.2) (.slice Ao24 t214.length co24)) (fun _ h_ => h_.1))) hb); have n3_ := Aside0.mk (blk_below (g := gb218) (o := .cells #[.string t208, .string t209, .string t210, .slice Ao23 t211.length co23, .slice Ao24 t214.length co24] 44 (0, 0)) (by (with_reducible repeat (first | refine blk_drewN ?_ _ | refine blk_drew ?_ | refine blk_alloc ?_ _)); refine blk_put (cs := #[.string t208, .string t209, .string t210, .slice Ao23 t211.length co23, .slice none 0 0]) ?_ 4 _ rfl; (with_reducible repeat (first | refine blk_drewN ?_ _ | refine blk_drew ?_ | refine blk_alloc ?_ _)); refine blk_put (cs := #[.string t208, .string t209, .string t210, .slice none 0 0, .slice none 0 0]) ?_ 3 _ rfl; (with_reducible repeat (first | refine blk_drewN ?_ _ | refine blk_drew ?_ | refine blk_alloc ?_ _)); refine blk_put (cs := #[.string t208, .string t209, .string (⟨#[]⟩ : ByteArray), .slice none 0 0, .slice none 0 0]) ?_ 2 _ rfl; (with_reducible repeat (first | refine blk_drewN ?_ _ | refine blk_drew ?_ | refine blk_alloc ?_ _)); refine blk_put (cs := #[.string t208, .string (⟨#[]⟩ : ByteArray), .string (⟨#[]⟩ : ByteArray), .slice none 0 0, .slice none 0 0]) ?_ 1 _ rfl; (with_reducible repeat (first | refine blk_drewN ?_ _ | refine blk_drew ?_ | refine blk_alloc ?_ _)); refine blk_put (cs := #[.string (⟨#[]⟩ : ByteArray), .string (⟨#[]⟩ : ByteArray), .string (⟨#[]⟩ : ByteArray), .slice none 0 0, .slice none 0 0]) ?_ 0 _ rfl; (with_reducible repeat (first | refine blk_drewN ?_ _ | refine blk_drew ?_ | refine blk_alloc ?_ _)); exact BK218.out) hb); have n4_ := Aside0.mk (below_step hb7_ hb); clear HO207; clear HO213; clear HO216; clear BK218; clear HB; have HO207 := n0_; have HO213 := n1_; have HO216 := n2_; have BK218 := n3_; have HB := n4_; clear n0_ n1_ n2_ n3_ n4_; (try clear hb); (try clear hb2); (try clear hk); (try clear hi)))
  go_ret
  exact ⟨by first | rfl | (simp [errW_none, errW_some] <;> rfl) | (simp [*, errW_none, errW_some] <;> rfl), hb7_⟩
 rw [if_pos c4] at H
 have c4b0 : (t219 == 0) = true := beq_iff_eq.mpr c4
 have c4b1 : (t219 != 0) = false := bne_eq_false_iff_eq.mpr c4
 clear c4
 replace H := Option.bind_eq_some_iff.mp H
 obtain ⟨t220, A50, H⟩ := H
 replace H : (some (t220 == 20)) = some r := H
 have A5 := Aside0.mk A50
 clear A50
 obtain rfl := Option.some.inj H
 go_enter Tryz.func6, Tryz.ntmps6
 go_wp2_with (first | ((with_reducible refine gate_dst (N := 5) rfl ?_); refine Kd.R_lit k55 _ 55 ?hg (N := 5) ?hd (xs := ([(⟨(⟨#[104, 111, 115, 116]⟩ : ByteArray), (⟨#[104]⟩ : ByteArray)⟩ : S55)] : List (S55))) (inner := [.string (⟨#[104, 111, 115, 116]⟩ : ByteArray), .string (⟨#[104]⟩ : ByteArray)]) (ok := fun _ => True) (okp := fun _ => True) ?hr ?hp (fun _ hk => hk) trivial (Below.refl _ _) (Nat.le_refl _) (by simp) ?_; (case hd => rfl); (case hg => rfl); (case hr => first | (go_simp; done) | (go_simp; rfl)); (case hp => exact (Reps.c2 (show Kd.M k55 _ _ _ (⟨(⟨#[104, 111, 115, 116]⟩ : ByteArray), (⟨#[104]⟩ : ByteArray)⟩ : S55) [.string (⟨#[104, 111, 115, 116]⟩ : ByteArray), .string (⟨#[104]⟩ : ByteArray)] from (k55_mkM _ _ _ (⟨(⟨#[104, 111, 115, 116]⟩ : ByteArray), (⟨#[104]⟩ : ByteArray)⟩ : S55) )) (Reps.none _ _))); intro v206 w6 ho7 hb hg_ hnew_; clear hg_ hnew_; (first | rw [← Ny205.out] at ho7 | (simp only [Int.reduceToNat] at ho7; rw [← Ny205.out] at ho7)); have n0_ := Aside0.mk (Kd.R_lower ho7 (below_size hb0_)); have n1_ := Aside0.mk (below_step hb0_ hb); clear HB; have HO207 := n0_; have HB := n1_; clear n0_ n1_; clear hb ho7; obtain ⟨Ao8, co8, eo8⟩ := Kd.R_slice HO207.out; subst eo8) | ((with_reducible refine gate_callee (f := 13) rfl ?_); refine goesL_ (some 7) rfl rfl Tryz.func13 (by kernel_rfl) rfl #[.agg #[.string (⟨#[71, 69, 84]⟩ : ByteArray), .string (⟨#[47, 98]⟩ : ByteArray), .string (⟨#[]⟩ : ByteArray), .slice Ao8 y205.length co8, .slice none 0 0], .string (⟨#[97, 49]⟩ : ByteArray), .string (⟨#[115]⟩ : ByteArray), .int .u64 1440938160] rfl (by (try simp only [List.map_toArray, List.map_cons, List.map_nil]); first | done | rfl | (simp only [List.length_drop, List.length_take]; rfl)) ?_; (refine (sigv4_Attach.calls _ _ _ _ _ _ _ _ _ _ _ _ _ _ _ _ _ _ _ _ ?side1 ?side2 ?side3 ?side4 A1.out).mono ?_); (case side1 => repeat (first | exact (Kd.R_reads' HO207.out).2.2 | (with_reducible refine Kd.C_alloc ?_ _) | (with_reducible refine Kd.C_drewN ?_ _) | (with_reducible refine Kd.C_drew ?_))); (case side2 => exact (Kd.R_reads' HO207.out).2.1); (case side3 => exact Kd.C_nil _ _); (case side4 => exact Nat.le_refl _); rintro e w9 ⟨v212, v215, rfl, ho0, ho1, hb⟩; refine ⟨_, rfl, ?_⟩; have n0_ := Aside0.mk (Kd.R_elder' (by (with_reducible repeat (first | apply Kd.R_alloc | apply Kd.R_drewN | apply Kd.R_drew)); exact HO207.out) (Kd.R_base ho0) hb); have n1_ := Aside0.mk (Kd.R_lower (Kd.R_new' ho0 (Kd.R_lt (by (with_reducible repeat (first | apply Kd.R_alloc | apply Kd.R_drewN | apply Kd.R_drew)); exact HO207.out))) (below_size hb0_)); have n2_ := Aside0.mk (Kd.R_lower ho1 (below_size hb0_)); have n3_ := Aside0.mk (below_step hb0_ hb); clear HO207; clear HB; have HO207 := n0_; have HO213 := n1_; have HO216 := n2_; have HB := n3_; clear n0_ n1_ n2_ n3_; (try clear hb); (try clear hb2); (try clear hk); (try clear hi); (try clear ho0); (try clear ho1)) | ((with_reducible refine gate_dst (N := 1) rfl ?_); refine box_event ?hg (N := 1) ?hd (cs := #[.string (⟨#[]⟩ : ByteArray), .string (⟨#[]⟩ : ByteArray), .string (⟨#[]⟩ : ByteArray), .slice none 0 0, .slice none 0 0]) (t := 44) ?hr ?_; (case hd => rfl); (case hg => rfl); (case hr => first | (go_simp; done) | (go_simp; rfl)); intro gb218 hg w10 hbox hb; have n0_ := Aside0.mk (Kd.R_below (by (with_reducible repeat (first | apply Kd.R_alloc | apply Kd.R_drewN | apply Kd.R_drew)); exact HO207.out) hb); have n1_ := Aside0.mk (Kd.R_below (by (with_reducible repeat (first | apply Kd.R_alloc | apply Kd.R_drewN | apply Kd.R_drew)); exact HO213.out) hb); have n2_ := Aside0.mk (Kd.R_below (by (with_reducible repeat (first | apply Kd.R_alloc | apply Kd.R_drewN | apply Kd.R_drew)); exact HO216.out) hb); have n3_ := Aside0.mk (below_step hb0_ hb); have n4_ := Aside0.mk (hbox); have n5_ := Aside0.mk ((by rw [hg]; exact (below_size hb0_) : w.heap.size ≤ gb218)); have n6_ := Aside0.mk ((by rw [hg]; exact (below_size hb0_) : w.heap.size ≤ gb218)); clear HO207; clear HO213; clear HO216; clear HB; have HO207 := n0_; have HO213 := n1_; have HO216 := n2_; have HB := n3_; have BK218 := n4_; have GW218 := n5_; have GE218 := n6_; clear n0_ n1_ n2_ n3_ n4_ n5_ n6_; clear hb hbox hg; have hcz11_0 : w10.cell? ⟨gb218, 0, none⟩ = some (.string (⟨#[]⟩ : ByteArray)) := (blk_cell BK218.out 0).trans rfl; have hcz11_1 : w10.cell? ⟨gb218, 1, none⟩ = some (.string (⟨#[]⟩ : ByteArray)) := (blk_cell BK218.out 1).trans rfl; have hcz11_2 : w10.cell? ⟨gb218, 2, none⟩ = some (.string (⟨#[]⟩ : ByteArray)) := (blk_cell BK218.out 2).trans rfl; have hcz11_3 : w10.cell? ⟨gb218, 3, none⟩ = some (.slice none 0 0) := (blk_cell BK218.out 3).trans rfl; have hcz11_4 : w10.cell? ⟨gb218, 4, none⟩ = some (.slice none 0 0) := (blk_cell BK218.out 4).trans rfl; have hfz11_0 := blk_frozen BK218.out 0; have hfz11_1 := blk_frozen BK218.out 1; have hfz11_2 := blk_frozen BK218.out 2; have hfz11_3 := blk_frozen BK218.out 3; have hfz11_4 := blk_frozen BK218.out 4; obtain ⟨Ao12, co12, eo12⟩ := Kd.R_slice HO213.out; subst eo12; obtain ⟨Ao13, co13, eo13⟩ := Kd.R_slice HO216.out; subst eo13) | (go_at_call 15; (with_reducible refine (sigv4_Verify.calls k t208 t209 t210 _ _ t211 _ _ t214 (⟨#[115]⟩ : ByteArray) 1440938160 t219 _ ?side1 ?side2 ?side3 ?side4 A3.out (mxk hM hb7_)).mono ?_); (case side1 => refine (Kd.R_reads' (e := 55) (base := w.heap.size) (ok := fun k_ => (True ∧ some k_ ≠ (.slice Ao8 y205.length co8 : Value).ownBlock)) (n := t211.length) (c := co12) ?_).2.2; exact (by (with_reducible repeat (first | apply Kd.R_alloc | apply Kd.R_drewN | apply Kd.R_drew)); exact (Kd.R_mono (Kd.R_far (p := ⟨gb218, 4, none⟩) (Kd.R_far (p := ⟨gb218, 3, none⟩) (Kd.R_far (p := ⟨gb218, 2, none⟩) (Kd.R_far (p := ⟨gb218, 1, none⟩) (Kd.R_far (p := ⟨gb218, 0, none⟩) (Kd.R_types HO213.out BK218.out (by decide)) (fun _ hk => hk.2) (.string t208)) (fun _ hk => hk.2) (.string t209)) (fun _ hk => hk.2) (.string t210)) (fun _ hk => hk.2) (.slice Ao12 t211.length co12)) (fun _ hk => hk.2) (.slice Ao13 t214.length co13)) (fun _ h_ => h_.1)))); (case side2 => exact (Kd.R_reads' HO213.out).2.1); (case side3 => refine (Kd.R_reads' (e := 5) (base := w.heap.size) (ok := fun k_ => True) (n := t214.length) (c := co13) ?_).2.2; exact (by (with_reducible repeat (first | apply Kd.R_alloc | apply Kd.R_drewN | apply Kd.R_drew)); exact (Kd.R_mono (Kd.R_far (p := ⟨gb218, 4, none⟩) (Kd.R_far (p := ⟨gb218, 3, none⟩) (Kd.R_far (p := ⟨gb218, 2, none⟩) (Kd.R_far (p := ⟨gb218, 1, none⟩) (Kd.R_far (p := ⟨gb218, 0, none⟩) (Kd.R_types HO216.out BK218.out (by decide)) (fun _ hk => hk.2) (.string t208)) (fun _ hk => hk.2) (.string t209)) (fun _ hk => hk.2) (.string t210)) (fun _ hk => hk.2) (.slice Ao12 t211.length co12)) (fun _ hk => hk.2) (.slice Ao13 t214.length co13)) (fun _ h_ => h_.1)))); (case side4 => exact (Kd.R_reads' HO216.out).2.1); rintro e w14 ⟨rfl, hb⟩; have n0_ := Aside0.mk (Kd.R_below (by (with_reducible repeat (first | apply Kd.R_alloc | apply Kd.R_drewN | apply Kd.R_drew)); exact (Kd.R_mono (Kd.R_far (p := ⟨gb218, 4, none⟩) (Kd.R_far (p := ⟨gb218, 3, none⟩) (Kd.R_far (p := ⟨gb218, 2, none⟩) (Kd.R_far (p := ⟨gb218, 1, none⟩) (Kd.R_far (p := ⟨gb218, 0, none⟩) (Kd.R_types HO207.out BK218.out (by decide)) (fun _ hk => hk.2) (.string t208)) (fun _ hk => hk.2) (.string t209)) (fun _ hk => hk.2) (.string t210)) (fun _ hk => hk.2) (.slice Ao12 t211.length co12)) (fun _ hk => hk.2) (.slice Ao13 t214.length co13)) (fun _ h_ => h_.1))) hb); have n1_ := Aside0.mk (Kd.R_below (by (with_reducible repeat (first | apply Kd.R_alloc | apply Kd.R_drewN | apply Kd.R_drew)); exact (Kd.R_mono (Kd.R_far (p := ⟨gb218, 4, none⟩) (Kd.R_far (p := ⟨gb218, 3, none⟩) (Kd.R_far (p := ⟨gb218, 2, none⟩) (Kd.R_far (p := ⟨gb218, 1, none⟩) (Kd.R_far (p := ⟨gb218, 0, none⟩) (Kd.R_types HO213.out BK218.out (by decide)) (fun _ hk => hk.2) (.string t208)) (fun _ hk => hk.2) (.string t209)) (fun _ hk => hk.2) (.string t210)) (fun _ hk => hk.2) (.slice Ao12 t211.length co12)) (fun _ hk => hk.2) (.slice Ao13 t214.length co13)) (fun _ h_ => h_.1))) hb); have n2_ := Aside0.mk (Kd.R_below (by (with_reducible repeat (first | apply Kd.R_alloc | apply Kd.R_drewN | apply Kd.R_drew)); exact (Kd.R_mono (Kd.R_far (p := ⟨gb218, 4, none⟩) (Kd.R_far (p := ⟨gb218, 3, none⟩) (Kd.R_far (p := ⟨gb218, 2, none⟩) (Kd.R_far (p := ⟨gb218, 1, none⟩) (Kd.R_far (p := ⟨gb218, 0, none⟩) (Kd.R_types HO216.out BK218.out (by decide)) (fun _ hk => hk.2) (.string t208)) (fun _ hk => hk.2) (.string t209)) (fun _ hk => hk.2) (.string t210)) (fun _ hk => hk.2) (.slice Ao12 t211.length co12)) (fun _ hk => hk.2) (.slice Ao13 t214.length co13)) (fun _ h_ => h_.1))) hb); have n3_ := Aside0.mk (blk_below (g := gb218) (o := .cells #[.string t208, .string t209, .string t210, .slice Ao12 t211.length co12, .slice Ao13 t214.length co13] 44 (0, 0)) (by (with_reducible repeat (first | refine blk_drewN ?_ _ | refine blk_drew ?_ | refine blk_alloc ?_ _)); refine blk_put (cs := #[.string t208, .string t209, .string t210, .slice Ao12 t211.length co12, .slice none 0 0]) ?_ 4 _ rfl; (with_reducible repeat (first | refine blk_drewN ?_ _ | refine blk_drew ?_ | refine blk_alloc ?_ _)); refine blk_put (cs := #[.string t208, .string t209, .string t210, .slice none 0 0, .slice none 0 0]) ?_ 3 _ rfl; (with_reducible repeat (first | refine blk_drewN ?_ _ | refine blk_drew ?_ | refine blk_alloc ?_ _)); refine blk_put (cs := #[.string t208, .string t209, .string (⟨#[]⟩ : ByteArray), .slice none 0 0, .slice none 0 0]) ?_ 2 _ rfl; (with_reducible repeat (first | refine blk_drewN ?_ _ | refine blk_drew ?_ | refine blk_alloc ?_ _)); refine blk_put (cs := #[.string t208, .string (⟨#[]⟩ : ByteArray), .string (⟨#[]⟩ : ByteArray), .slice none 0 0, .slice none 0 0]) ?_ 1 _ rfl; (with_reducible repeat (first | refine blk_drewN ?_ _ | refine blk_drew ?_ | refine blk_alloc ?_ _)); refine blk_put (cs := #[.string (⟨#[]⟩ : ByteArray), .string (⟨#[]⟩ : ByteArray), .string (⟨#[]⟩ : ByteArray), .slice none 0 0, .slice none 0 0]) ?_ 0 _ rfl; (with_reducible repeat (first | refine blk_drewN ?_ _ | refine blk_drew ?_ | refine blk_alloc ?_ _)); exact BK218.out) hb); have n4_ := Aside0.mk (below_step hb7_ hb); clear HO207; clear HO213; clear HO216; clear BK218; clear HB; have HO207 := n0_; have HO213 := n1_; have HO216 := n2_; have BK218 := n3_; have HB := n4_; clear n0_ n1_ n2_ n3_ n4_; (try clear hb); (try clear hb2); (try clear hk); (try clear hi); have hcz15_0 : w14.cell? ⟨gb218, 0, none⟩ = some (.string t208) := (blk_cell BK218.out 0).trans rfl; have hcz15_1 : w14.cell? ⟨gb218, 1, none⟩ = some (.string t209) := (blk_cell BK218.out 1).trans rfl; have hcz15_2 : w14.cell? ⟨gb218, 2, none⟩ = some (.string t210) := (blk_cell BK218.out 2).trans rfl; have hcz15_3 : w14.cell? ⟨gb218, 3, none⟩ = some (.slice Ao12 t211.length co12) := (blk_cell BK218.out 3).trans rfl; have hcz15_4 : w14.cell? ⟨gb218, 4, none⟩ = some (.slice Ao13 t214.length co13) := (blk_cell BK218.out 4).trans rfl; have hfz15_0 := blk_frozen BK218.out 0; have hfz15_1 := blk_frozen BK218.out 1; have hfz15_2 := blk_frozen BK218.out 2; have hfz15_3 := blk_frozen BK218.out 3; have hfz15_4 := blk_frozen BK218.out 4) | (go_at_call 15; (with_reducible refine (sigv4_Verify.calls k t208 t209 t210 _ _ t211 _ _ t214 (⟨#[116]⟩ : ByteArray) 1440938160 t220 _ ?side1 ?side2 ?side3 ?side4 A5.out (mxk hM hb7_)).mono ?_); (case side1 => repeat (first | exact (Kd.R_reads' HO213.out).2.2 | (with_reducible refine Kd.C_alloc ?_ _) | (with_reducible refine Kd.C_drewN ?_ _) | (with_reducible refine Kd.C_drew ?_))); (case side2 => exact (Kd.R_reads' HO213.out).2.1); (case side3 => repeat (first | exact (Kd.R_reads' HO216.out).2.2 | (with_reducible refine Kd.C_alloc ?_ _) | (with_reducible refine Kd.C_drewN ?_ _) | (with_reducible refine Kd.C_drew ?_))); (case side4 => exact (Kd.R_reads' HO216.out).2.1); rintro e w16 ⟨rfl, hb⟩; have n0_ := Aside0.mk (Kd.R_below (by (with_reducible repeat (first | apply Kd.R_alloc | apply Kd.R_drewN | apply Kd.R_drew)); exact HO207.out) hb); have n1_ := Aside0.mk (Kd.R_below (by (with_reducible repeat (first | apply Kd.R_alloc | apply Kd.R_drewN | apply Kd.R_drew)); exact HO213.out) hb); have n2_ := Aside0.mk (Kd.R_below (by (with_reducible repeat (first | apply Kd.R_alloc | apply Kd.R_drewN | apply Kd.R_drew)); exact HO216.out) hb); have n3_ := Aside0.mk (blk_below (g := gb218) (o := .cells #[.string t208, .string t209, .string t210, .slice Ao12 t211.length co12, .slice Ao13 t214.length co13] 44 (0, 0)) (by (with_reducible repeat (first | refine blk_drewN ?_ _ | refine blk_drew ?_ | refine blk_alloc ?_ _)); exact BK218.out) hb); have n4_ := Aside0.mk (below_step hb7_ hb); clear HO207; clear HO213; clear HO216; clear BK218; clear HB; have HO207 := n0_; have HO213 := n1_; have HO216 := n2_; have BK218 := n3_; have HB := n4_; clear n0_ n1_ n2_ n3_ n4_; (try clear hb); (try clear hb2); (try clear hk); (try clear hi)))
 go_ret
 exact ⟨by first | rfl | (simp [errW_none, errW_some] <;> rfl) | (simp [*, errW_none, errW_some] <;> rfl), hb7_⟩
def steleref06_scope.f (a0 : ByteArray) : Option (ByteArray) := if a0.size + 22 ≤ 9223372036854775807 then (some (a0 ++ (⟨#[47, 108, 111, 99, 97, 108, 47, 115, 51, 47, 97, 119, 115, 52, 95, 114, 101, 113, 117, 101, 115, 116]⟩ : ByteArray))) else (none)
set_option maxHeartbeats 8000000 in
set_option maxRecDepth 100000 in
theorem steleref06_scope.calls (a0 : ByteArray) (r : ByteArray) (w : World) (h : steleref06_scope.f a0 = some r) :
  Calls Tryz.prog 27 #[.string a0] w fun e w' => e = .returned (.string r) ∧ Drawn0 w w' := by
 have H : (if a0.size + 22 ≤ 9223372036854775807 then (some (a0 ++ (⟨#[47, 108, 111, 99, 97, 108, 47, 115, 51, 47, 97, 119, 115, 52, 95, 114, 101, 113, 117, 101, 115, 116]⟩ : ByteArray))) else (none)) = some r := h
 clear h
 by_cases c2 : a0.size + 22 ≤ 9223372036854775807
 rotate_left
 ·rw [if_neg c2] at H
  exact absurd H (by simp)
 rw [if_pos c2] at H
 have c2b0 := eq_true c2
 have c2b1 : decide (a0.size + 22 ≤ 9223372036854775807) = true := decide_eq_true c2
 try have c2b2 : (9223372036854775807 < a0.size + 22) = False := eq_false (Nat.not_lt.2 c2)
 obtain rfl := Option.some.inj H
 go_enter Tryz.func27, Tryz.ntmps27
 go_wp2
 go_ret
 exact ⟨by first | rfl | (simp; done) | (simp [*]; done), by repeat (first | exact Drawn0.refl _ | apply Drawn0.step)⟩
def steleref06_Join.l0 : Nat → List ByteArray → ByteArray → ByteArray → Int → Option (ByteArray)
 | 0, _, _, _, _ => none
 | k + 1, x0, x1, x5, x6 => if x6 < (x0.length : Int) then (if x6 > 0 then (if x5.size + x1.size ≤ 9223372036854775807 then (if 0 ≤ x6 then (if (x5 ++ x1).size + (rdOf ByteArray.empty x0 x6).size ≤ 9223372036854775807 then (steleref06_Join.l0 k x0 x1 ((x5 ++ x1) ++ (rdOf ByteArray.empty x0 x6)) (wrap64 (x6 + 1))) else (none)) else (none)) else (none)) else (if 0 ≤ x6 then (if x5.size + (rdOf ByteArray.empty x0 x6).size ≤ 9223372036854775807 then (steleref06_Join.l0 k x0 x1 (x5 ++ (rdOf ByteArray.empty x0 x6)) (wrap64 (x6 + 1))) else (none)) else (none))) else (some x5)
def steleref06_Join.f (k : Nat) (l0 : List ByteArray) (a1 : ByteArray) : Option (ByteArray) := steleref06_Join.l0 k l0 a1 (⟨#[]⟩ : ByteArray) 0
set_option maxHeartbeats 8000000 in
set_option maxRecDepth 100000 in
theorem steleref06_Join.calls (k : Nat) (A0 : Option Addr) (c0 : Nat) (l0 : List ByteArray) (a1 : ByteArray) (r : ByteArray) (w : World) (hr0 : Kd.C Kd.string w A0 l0.length l0) (hc0 : l0.length ≤ c0) (h : steleref06_Join.f k l0 a1 = some r) :
  Calls Tryz.prog 28 #[.slice A0 l0.length c0, .string a1] w fun e w' => e = .returned (.string r) ∧ Drawn0 w w' := by
 have HR0 := Aside0.mk hr0
 have HC0 := Aside0.mk hc0
 clear hr0 hc0
 have H : (steleref06_Join.l0 k l0 a1 (⟨#[]⟩ : ByteArray) 0) = some r := h
 clear h
 have H' := Aside0.mk H
 clear H
 go_enter Tryz.func28, Tryz.ntmps28
 go_wp2
 go_loopg [5, 6] k (fun kq v5 v6 w' => ∃ (x5_1 : ByteArray) (x6_1 : Int), v5 = .string x5_1 ∧ v6 = .int .i64 x6_1 ∧ Aside0 (steleref06_Join.l0 kq l0 a1 x5_1 x6_1 = some r) ∧ Aside0 (kq ≤ k) ∧ Drawn0 w w')
 case atStart => exact ⟨((⟨#[]⟩ : ByteArray)), (0), (by first | rfl | (simp; done) | (simp [*]; done)), (by first | rfl | (simp; done) | (simp [*]; done)), H', ⟨Nat.le_refl _⟩, by repeat (first | exact Drawn0.refl _ | apply Drawn0.step)⟩
 case round =>
  clear H'
  try clear c2
  try clear p2
  obtain ⟨x5_1, x6_1, rfl, rfl, HA, HK1, ⟨m1, rfl⟩⟩ := hrel
  cases gk with
  | zero => exact absurd HA.out (by simp [steleref06_Join.l0])
  | succ k1 =>
   have H := HA.out
   clear HA
   simp only [steleref06_Join.l0] at H
   by_cases c3 : x6_1 < (l0.length : Int)
   rotate_left
   ·rw [if_neg c3] at H
    have c3b0 : decide (x6_1 < (l0.length : Int)) = false := decide_eq_false c3
    clear c3
    obtain rfl := Option.some.inj H
    go_wp2
    go_ret
    exact ⟨by first | rfl | (simp; done) | (simp [*]; done), by repeat (first | exact Drawn0.refl _ | apply Drawn0.step)⟩
   rw [if_pos c3] at H
   have c3b0 : decide (x6_1 < (l0.length : Int)) = true := decide_eq_true c3
   clear c3
   by_cases c4 : x6_1 > 0
   rotate_left
   ·rw [if_neg c4] at H
    have c4b0 : decide (0 < x6_1) = false := decide_eq_false c4
    clear c4
    by_cases c8 : 0 ≤ x6_1
    rotate_left
    ·rw [if_neg c8] at H
     exact absurd H (by simp)
    rw [if_pos c8] at H
    have c8b0 : decide (0 ≤ x6_1) = true := decide_eq_true c8
    clear c8
    by_cases c9 : x5_1.size + (rdOf ByteArray.empty l0 x6_1).size ≤ 9223372036854775807
    rotate_left
    ·rw [if_neg c9] at H
     exact absurd H (by simp)
    rw [if_pos c9] at H
    have c9b0 := eq_true c9
    have c9b1 : decide (x5_1.size + (rdOf ByteArray.empty l0 x6_1).size ≤ 9223372036854775807) = true := decide_eq_true c9
    try have c9b2 : (9223372036854775807 < x5_1.size + (rdOf ByteArray.empty l0 x6_1).size) = False := eq_false (Nat.not_lt.2 c9)
    have H' := Aside0.mk H
    clear H
    have p222 : 0 ≤ (x6_1 : Int) := ode_
    have q222 : x6_1 < (l0.length : Int) := ode_
    obtain ⟨ad222, e222, hx222_0⟩ := Kd.at_string HR0.out x6_1 p222 q222
    cases e222
    replace p222 := eq_true p222
    replace q222 := eq_true q222
    go_wp2
    go_roundg k1
    case measure => have := HK1.out; omega
    case rel => exact ⟨(x5_1 ++ (rdOf ByteArray.empty l0 x6_1)), (wrap64 (x6_1 + 1)), (by first | rfl | (simp; done) | (simp [*]; done)), (by first | rfl | (simp; done) | (simp [*]; done)), H', ⟨by have := HK1.out; omega⟩, by repeat (first | exact Drawn0.refl _ | apply Drawn0.step)⟩
   rw [if_pos c4] at H
   have c4b0 : decide (0 < x6_1) = true := decide_eq_true c4
   clear c4
   by_cases c5 : x5_1.size + a1.size ≤ 9223372036854775807
   rotate_left
   ·rw [if_neg c5] at H
    exact absurd H (by simp)
   rw [if_pos c5] at H
   have c5b0 := eq_true c5
   have c5b1 : decide (x5_1.size + a1.size ≤ 9223372036854775807) = true := decide_eq_true c5
   try have c5b2 : (9223372036854775807 < x5_1.size + a1.size) = False := eq_false (Nat.not_lt.2 c5)
   by_cases c6 : 0 ≤ x6_1
   rotate_left
   ·rw [if_neg c6] at H
    exact absurd H (by simp)
   rw [if_pos c6] at H
   have c6b0 : decide (0 ≤ x6_1) = true := decide_eq_true c6
   clear c6
   by_cases c7 : (x5_1 ++ a1).size + (rdOf ByteArray.empty l0 x6_1).size ≤ 9223372036854775807
   rotate_left
   ·rw [if_neg c7] at H
    exact absurd H (by simp)
   rw [if_pos c7] at H
   have c7b0 := eq_true c7
   have c7b1 : decide ((x5_1 ++ a1).size + (rdOf ByteArray.empty l0 x6_1).size ≤ 9223372036854775807) = true := decide_eq_true c7
   try have c7b2 : (9223372036854775807 < (x5_1 ++ a1).size + (rdOf ByteArray.empty l0 x6_1).size) = False := eq_false (Nat.not_lt.2 c7)
   have c7b3 : (9223372036854775807 < x5_1.size + a1.size + (rdOf ByteArray.empty l0 x6_1).size) = False := eq_false (Nat.not_lt.2 (by have h_ := c7; simp only [ByteArray.size_append] at h_; exact h_))
   have H' := Aside0.mk H
   clear H
   have p221 : 0 ≤ (x6_1 : Int) := ode_
   have q221 : x6_1 < (l0.length : Int) := ode_
   obtain ⟨ad221, e221, hx221_0⟩ := Kd.at_string HR0.out x6_1 p221 q221
   cases e221
   replace p221 := eq_true p221
   replace q221 := eq_true q221
   go_wp2
   go_roundg k1
   case measure => have := HK1.out; omega
   case rel => exact ⟨((x5_1 ++ a1) ++ (rdOf ByteArray.empty l0 x6_1)), (wrap64 (x6_1 + 1)), (by first | rfl | (simp; done) | (simp [*]; done)), (by first | rfl | (simp; done) | (simp [*]; done)), H', ⟨by have := HK1.out; omega⟩, by repeat (first | exact Drawn0.refl _ | apply Drawn0.step)⟩
end Go.Proofs.YtghcadbmjglidaaGreatDoor.PSg
end
