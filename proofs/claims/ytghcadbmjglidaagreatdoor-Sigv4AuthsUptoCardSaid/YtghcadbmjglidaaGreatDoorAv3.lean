/- Texts of this proof, laid together: PSgx0, PSgx1, PSgx2, PSgx8, SgA. -/
import Derived.Below
import Derived.Deep.Draws
import Derived.Deep.AppendLies
import Derived.Maps.AppendAt
import Derived.OwnWalk
import Derived.Laws.BytesArg
import Derived.Laws.MakeOwn
import Derived.Laws.OwnMore
import Derived.Deep.OwnRows
import Derived.Tactics
import Derived.Lib.ConvBytes
import Derived.Laws.Slices
import Derived.WalkKit
import Derived.KernelRfl
import Derived.RowKit3
import Derived.Deep.LoopGhost
import Derived.Deep.QuietTactic
import Derived.BigQuiet
import Derived.WideLaws
import Derived.Deep.DeepCutAuto
import Derived.Deep.CutBlock
import Derived.Deep.RegionHeld3
import Derived.Laws.Rows
import Derived.Lib.AppendStr
import Derived.ArgAppend
import Derived.Laws.IdiomCopy
import Derived.OrdersHeld
import Derived.Laws.BitsLemmas
import Derived.RowKit
import Derived.Deep.Onto
import Derived.Lib.SliceRun
import Derived.Sort.OwnSorted
import Derived.Test.YtghcadbmjglidaaGreatDoorAv0
import Derived.Test.YtghcadbmjglidaaGreatDoorAv2
set_option linter.unusedVariables false
set_option linter.unusedSimpArgs false
section
namespace Go.Proofs.YtghcadbmjglidaaGreatDoor.PSg
open Go.RowKit Go.Proofs.YtghcadbmjglidaaGreatDoorW.PrintWords Go.Proofs.YtghcadbmjglidaaGreatDoorW.PrintLast Go.Proofs.YtghcadbmjglidaaGreatDoorW.PrintMore
attribute [local go_sem] max2_int min2_int max_two min_two max_three min_three max_four min_four
set_option linter.unusedVariables false
set_option linter.unusedSimpArgs false
def errW : Option Int → Value
 | none => .nilIface
 | some c => .iface 0 (.int .i64 c)
theorem errW_none : errW none = .nilIface := rfl
theorem errW_some (c : Int) : errW (some c) = .iface 0 (.int .i64 c) := rfl
theorem info5 : (Tryz.prog.info? 5).map (fun i => (i.zero, i.size, i.bytes)) = some (some (.int .u8 0), 1, 1) := by kernel_rfl
theorem info9 : (Tryz.prog.info? 9).map (fun i => (i.zero, i.size, i.bytes)) = some (some (.string ⟨#[]⟩), 1, 16) := by kernel_rfl
theorem info55 : (Tryz.prog.info? 55).map (fun i => (i.zero, i.size, i.bytes)) = some (some (.agg #[(.string ⟨#[]⟩), (.string ⟨#[]⟩)]), 2, 32) := by kernel_rfl
theorem info185 : (Tryz.prog.info? 185).map (fun i => (i.zero, i.size, i.bytes)) = some (some (.agg #[(.string ⟨#[]⟩), (.string ⟨#[]⟩)]), 2, 32) := by kernel_rfl
structure S55 where
 f0 : ByteArray
 f1 : ByteArray
def z55 : S55 := ⟨(⟨#[]⟩ : ByteArray), (⟨#[]⟩ : ByteArray)⟩
def k55 : Kd S55 := Kd.iso (Kd.pair Kd.string Kd.string) (fun x : S55 => (x.f0, x.f1))
theorem k55_open {w : World} {x : S55} {cs : List Value} (h : k55.K w x cs) : cs = [.string x.f0, .string x.f1] := by
 obtain ⟨_, _, rfl, rfl, rfl⟩ := h
 exact rfl
theorem k55_mkM (w : World) (base : Nat) (ok : Nat → Prop) (x : S55)  : k55.M w base ok x [.string x.f0, .string x.f1] := ⟨[.string x.f0], [.string x.f1], rfl, rfl, rfl⟩
def rd_T55 (xs : List S55) (i : Int) : S55 := xs.getD i.toNat z55
theorem at_T55 {w : World} {A : Option Addr} {n : Nat} {xs : List S55} (h : Kd.C k55 w A n xs) (i : Int) (h0 : 0 ≤ i) (h1 : i < n) : ∃ ad , A = some ad ∧ w.cell? (ad.add (i.toNat * 2)) = some (.string (rd_T55 xs i).f0) ∧ w.cell? ⟨(ad.add (i.toNat * 2)).block, (ad.add (i.toNat * 2)).off + 1, none⟩ = some (.string (rd_T55 xs i).f1) := by
 obtain ⟨ad, c, e, _, hK, hc0⟩ := Kd.C_get h z55 i h0 h1
 have hc : ∀ j u, c[j]? = some u → w.cell? (ad.add (i.toNat * 2 + j)) = some u := hc0
 obtain rfl := k55_open hK
 exact ⟨ad, e, hc 0 _ rfl, by rw [← add_field _ _ 1 (by omega)]; exact hc 1 _ rfl⟩
structure S185 where
 f0 : ByteArray
 f1 : ByteArray
def z185 : S185 := ⟨(⟨#[]⟩ : ByteArray), (⟨#[]⟩ : ByteArray)⟩
def k185 : Kd S185 := Kd.iso (Kd.pair Kd.string Kd.string) (fun x : S185 => (x.f0, x.f1))
theorem k185_open {w : World} {x : S185} {cs : List Value} (h : k185.K w x cs) : cs = [.string x.f0, .string x.f1] := by
 obtain ⟨_, _, rfl, rfl, rfl⟩ := h
 exact rfl
theorem k185_mkM (w : World) (base : Nat) (ok : Nat → Prop) (x : S185)  : k185.M w base ok x [.string x.f0, .string x.f1] := ⟨[.string x.f0], [.string x.f1], rfl, rfl, rfl⟩
def rd_T185 (xs : List S185) (i : Int) : S185 := xs.getD i.toNat z185
theorem at_T185 {w : World} {A : Option Addr} {n : Nat} {xs : List S185} (h : Kd.C k185 w A n xs) (i : Int) (h0 : 0 ≤ i) (h1 : i < n) : ∃ ad , A = some ad ∧ w.cell? (ad.add (i.toNat * 2)) = some (.string (rd_T185 xs i).f0) ∧ w.cell? ⟨(ad.add (i.toNat * 2)).block, (ad.add (i.toNat * 2)).off + 1, none⟩ = some (.string (rd_T185 xs i).f1) := by
 obtain ⟨ad, c, e, _, hK, hc0⟩ := Kd.C_get h z185 i h0 h1
 have hc : ∀ j u, c[j]? = some u → w.cell? (ad.add (i.toNat * 2 + j)) = some u := hc0
 obtain rfl := k185_open hK
 exact ⟨ad, e, hc 0 _ rfl, by rw [← add_field _ _ 1 (by omega)]; exact hc 1 _ rfl⟩
structure S52 where
 f0 : ByteArray
 f1 : ByteArray
structure S196 where
 f0 : ByteArray
 f1 : ByteArray
end Go.Proofs.YtghcadbmjglidaaGreatDoor.PSg
end
section
namespace Go.Proofs.YtghcadbmjglidaaGreatDoor.PSg
open Go.RowKit Go.Proofs.YtghcadbmjglidaaGreatDoorW.PrintWords Go.Proofs.YtghcadbmjglidaaGreatDoorW.PrintLast Go.Proofs.YtghcadbmjglidaaGreatDoorW.PrintMore
attribute [local go_sem] max2_int min2_int max_two min_two max_three min_three max_four min_four
set_option linter.unusedVariables false
set_option linter.unusedSimpArgs false
def bl (a : ByteArray) : List UInt8 := a.data.toList
def ba (l : List UInt8) : ByteArray := ⟨l.toArray⟩
theorem bl_len (a : ByteArray) : (bl a).length = a.size := (Lib.size_eq a).symm
def MaxOk (w : World) : Prop := ∃ m : Int, w.cell? ⟨0, 0, none⟩ = some (.int .i64 m)
theorem has_of_C {w : World} {A : Option Addr} {l : List Int} (h : Kd.C (Kd.int .u8) w A l.length l) (hx : ∀ x ∈ l, 0 ≤ x ∧ x < 256) : Has w A (l.map Int.toNat) := fun h0 => by
 rw [List.length_map] at h0
 obtain ⟨ad, h1, h2⟩ := (Kd.reads_of_C (d := 0) h).2.2 h0
 refine ⟨ad, h1, fun j v hv => ?_⟩
 rw [List.getElem?_map, List.getElem?_map] at hv
 cases hj : l[j]? with
 | none => rw [hj] at hv; cases hv
 | some x =>
  rw [hj] at hv
  have hlt := (List.getElem?_eq_some_iff.1 hj).1
  have := h2 j hlt
  rw [List.getD_eq_getElem?_getD, hj] at this
  have h3 := hx x (List.mem_of_getElem? hj)
  rw [this, ← Option.some.inj hv]
  show some (Value.int .u8 x) = some (.int .u8 ((x.toNat : Nat) : Int))
  rw [Int.toNat_of_nonneg h3.1]
theorem R_bytes {w : World} {base : Nat} {v : Value} {l : List Nat} (h : w.ownsRow base 5 1 v l.length (n8 l)) : Kd.R (Kd.int .u8) 5 w base (fun _ => True) v (l.map fun n : Nat => (n : Int)) :=
 Kd.R_of_own (show w.ownsRow base 5 1 v _ (List.map (Value.int .u8) (l.map fun n : Nat => (n : Int))) by rw [List.length_map, List.map_map]; exact h) (fun _ _ => trivial)
theorem shaOf_len (m : List Nat) : (shaOf m).length = 32 := by unfold shaOf sumBytes; rfl
theorem MaxOk.below {w w' : World} {n : Nat} (h : MaxOk w) (hn : 0 < n) (hb : Below n w w') : MaxOk w' := by
 obtain ⟨m, h⟩ := h
 exact ⟨m, (hb.cell (p := ⟨0, 0, none⟩) hn).trans h⟩
theorem mxk {w W : World} (h : Aside0 (MaxOk w)) (hb : Below w.heap.size w W) : Aside0 (MaxOk W) := by
 obtain ⟨m, hm⟩ := h.out
 exact ⟨h.out.below (World.block_lt_of_cell? w _ hm) hb⟩
def strings_Join.f (l0 : List ByteArray) (a1 : ByteArray) : Option (ByteArray) := if l0.length ≤ 1000000 ∧ 0 < a1.size ∧ a1.size ≤ 1000 ∧ (l0.map (·.size)).sum ≤ 10000000000 then some (ba (Uri.jn (bl a1) (l0.map bl))) else none
set_option maxRecDepth 100000 in
set_option maxHeartbeats 4000000 in
theorem strings_Join.calls (A0 : Option Addr) (c0 : Nat) (l0 : List ByteArray) (a1 : ByteArray) (r : ByteArray) (w : World) (hr0 : Kd.C Kd.string w A0 l0.length l0) (hc0 : l0.length ≤ c0) (h : strings_Join.f l0 a1 = some r) :
  Calls Tryz.prog 26 #[.slice A0 l0.length c0, .string a1] w fun e w' => e = .returned (.string r) ∧ Below w.heap.size w w' := by
 unfold strings_Join.f at h
 split at h
 case isFalse => cases h
 case isTrue hl =>
 obtain rfl := Option.some.inj h
 have hm : (l0.map bl).length = l0.length := List.length_map ..
 have hg : ∀ i, i < l0.length → Value.string (l0.getD i ByteArray.empty) = str ((l0.map bl).getD i []) := fun i hi => by
  rw [List.getD_eq_getElem?_getD, List.getD_eq_getElem?_getD, List.getElem?_map, List.getElem?_eq_getElem hi]
  exact (congrArg Value.string (Lib.mk_data l0[i])).symm
 have hsz : (l0.map bl).map List.length = l0.map (·.size) := by rw [List.map_map]; exact List.map_congr_left fun x _ => (Lib.size_eq x).symm
 have h1 := strings_JoinA (l0.map bl) (bl a1) A0 c0 w (fun h0 => by
  rw [hm] at h0
  obtain ⟨ad, hA, hc⟩ := (Kd.reads_of_C (d := ByteArray.empty) hr0).2.2 h0
  refine ⟨ad, hA, fun i hi => ?_⟩
  rw [hm] at hi
  rw [← hg i hi]
  exact hc i hi) (by rw [hm]; exact hl.1) ⟨by have := hl.2.1; rw [Lib.size_eq] at this; exact this, by have := hl.2.2.1; rw [Lib.size_eq] at this; exact this⟩ (by rw [hsz]; exact hl.2.2.2) (by rw [hm]; exact hc0)
 rw [hm, show str (bl a1) = .string a1 from congrArg Value.string (Lib.mk_data a1)] at h1
 exact h1
def sigv4_scope.f (a0 : ByteArray) : Option (ByteArray) := (strings_Join.f (([a0, (⟨#[108, 111, 99, 97, 108]⟩ : ByteArray), (⟨#[115, 51]⟩ : ByteArray), (⟨#[97, 119, 115, 52, 95, 114, 101, 113, 117, 101, 115, 116]⟩ : ByteArray)] : List ByteArray)) (⟨#[47]⟩ : ByteArray)).bind fun t104 => (some t104)
set_option maxHeartbeats 8000000 in
set_option maxRecDepth 100000 in
theorem sigv4_scope.calls (a0 : ByteArray) (r : ByteArray) (w : World) (h : sigv4_scope.f a0 = some r) :
  Calls Tryz.prog 20 #[.string a0] w fun e w' => e = .returned (.string r) ∧ Below w.heap.size w w' := by
 have HB := Aside0.mk (Below.refl w.heap.size w)
 have H : ((strings_Join.f (([a0, (⟨#[108, 111, 99, 97, 108]⟩ : ByteArray), (⟨#[115, 51]⟩ : ByteArray), (⟨#[97, 119, 115, 52, 95, 114, 101, 113, 117, 101, 115, 116]⟩ : ByteArray)] : List ByteArray)) (⟨#[47]⟩ : ByteArray)).bind fun t104 => (some t104)) = some r := h
 clear h
 obtain ⟨y101, hy101⟩ : ∃ y_ : List ByteArray, y_ = (([a0, (⟨#[108, 111, 99, 97, 108]⟩ : ByteArray), (⟨#[115, 51]⟩ : ByteArray), (⟨#[97, 119, 115, 52, 95, 114, 101, 113, 117, 101, 115, 116]⟩ : ByteArray)] : List ByteArray)) := ⟨_, rfl⟩
 replace H : ((strings_Join.f y101 (⟨#[47]⟩ : ByteArray)).bind fun t104 => (some t104)) = some r := by first | (rw [hy101]; with_reducible exact H) | (have H2_ := (Option.bind_some _ _).symm.trans H; rw [hy101]; with_reducible exact H2_) | (have H2_ := (Option.bind_some _ _).symm.trans H; with_reducible exact H2_) | with_reducible exact H | (rw [hy101]; exact H) | exact H
 have Ny101 := Aside0.mk hy101
 clear hy101
 replace H := Option.bind_eq_some_iff.mp H
 obtain ⟨t104, A20, H⟩ := H
 replace H : (some t104) = some r := H
 have A2 := Aside0.mk A20
 clear A20
 obtain rfl := Option.some.inj H
 go_enter Tryz.func20, Tryz.ntmps20
 go_wp2_with (first | ((with_reducible refine gate_dst (N := 4) rfl ?_); refine Kd.R_lit Kd.string _ 9 ?hg (N := 4) ?hd (xs := ([a0, (⟨#[108, 111, 99, 97, 108]⟩ : ByteArray), (⟨#[115, 51]⟩ : ByteArray), (⟨#[97, 119, 115, 52, 95, 114, 101, 113, 117, 101, 115, 116]⟩ : ByteArray)] : List ByteArray)) (inner := [.string a0, .string (⟨#[108, 111, 99, 97, 108]⟩ : ByteArray), .string (⟨#[115, 51]⟩ : ByteArray), .string (⟨#[97, 119, 115, 52, 95, 114, 101, 113, 117, 101, 115, 116]⟩ : ByteArray)]) (ok := fun _ => True) (okp := fun _ => True) ?hr ?hp (fun _ hk => hk) trivial (Below.refl _ _) (Nat.le_refl _) (by simp) ?_; (case hd => rfl); (case hg => rfl); (case hr => first | (go_simp; done) | (go_simp; rfl)); (case hp => exact (Reps.one (show Kd.M Kd.string _ _ _ a0 [.string a0] from rfl) (Reps.one (show Kd.M Kd.string _ _ _ (⟨#[108, 111, 99, 97, 108]⟩ : ByteArray) [.string (⟨#[108, 111, 99, 97, 108]⟩ : ByteArray)] from rfl) (Reps.one (show Kd.M Kd.string _ _ _ (⟨#[115, 51]⟩ : ByteArray) [.string (⟨#[115, 51]⟩ : ByteArray)] from rfl) (Reps.one (show Kd.M Kd.string _ _ _ (⟨#[97, 119, 115, 52, 95, 114, 101, 113, 117, 101, 115, 116]⟩ : ByteArray) [.string (⟨#[97, 119, 115, 52, 95, 114, 101, 113, 117, 101, 115, 116]⟩ : ByteArray)] from rfl) (Reps.none _ _)))))); intro v102 w3 ho4 hb hg_ hnew_; clear hg_ hnew_; (first | rw [← Ny101.out] at ho4 | (simp only [Int.reduceToNat] at ho4; rw [← Ny101.out] at ho4)); have n0_ := Aside0.mk (Kd.R_lower ho4 (below_size hb0_)); have n1_ := Aside0.mk (below_step hb0_ hb); clear HB; have HO103 := n0_; have HB := n1_; clear n0_ n1_; clear hb ho4; obtain ⟨Ao5, co5, eo5⟩ := Kd.R_slice HO103.out; subst eo5) | ((with_reducible refine gate_callee (f := 26) rfl ?_); refine goesL_ (some 5) rfl rfl Tryz.func26 (by kernel_rfl) rfl #[.slice Ao5 y101.length co5, .string (⟨#[47]⟩ : ByteArray)] rfl (by (try simp only [List.map_toArray, List.map_cons, List.map_nil]); first | done | rfl | (simp only [List.length_drop, List.length_take]; rfl)) ?_; (with_reducible refine (strings_Join.calls _ _ y101 (⟨#[47]⟩ : ByteArray) t104 _ ?side1 ?side2 A2.out).mono ?_); (case side1 => repeat (first | exact (Kd.R_reads' HO103.out).2.2 | (with_reducible refine Kd.C_alloc ?_ _) | (with_reducible refine Kd.C_drewN ?_ _) | (with_reducible refine Kd.C_drew ?_))); (case side2 => exact (Kd.R_reads' HO103.out).2.1); rintro e w6 ⟨rfl, hb⟩; refine ⟨_, rfl, ?_⟩; have n0_ := Aside0.mk (Kd.R_below (by (with_reducible repeat (first | apply Kd.R_alloc | apply Kd.R_drewN | apply Kd.R_drew)); exact HO103.out) hb); have n1_ := Aside0.mk (below_step hb0_ hb); clear HO103; clear HB; have HO103 := n0_; have HB := n1_; clear n0_ n1_; (try clear hb); (try clear hb2); (try clear hk); (try clear hi)))
 go_ret
 exact ⟨by first | rfl | (simp [errW_none, errW_some] <;> rfl) | (simp [*, errW_none, errW_some] <;> rfl), hb0_⟩
def sigv4_ShowAuth.f (a0_0 : ByteArray) (a0_1 : ByteArray) (l0_2 : List ByteArray) (a0_3 : ByteArray) : Option (ByteArray) := if 28 + a0_0.size ≤ 9223372036854775807 then (if ((⟨#[65, 87, 83, 52, 45, 72, 77, 65, 67, 45, 83, 72, 65, 50, 53, 54, 32, 67, 114, 101, 100, 101, 110, 116, 105, 97, 108, 61]⟩ : ByteArray) ++ a0_0).size + 1 ≤ 9223372036854775807 then ((sigv4_scope.f a0_1).bind fun t106 => (if (((⟨#[65, 87, 83, 52, 45, 72, 77, 65, 67, 45, 83, 72, 65, 50, 53, 54, 32, 67, 114, 101, 100, 101, 110, 116, 105, 97, 108, 61]⟩ : ByteArray) ++ a0_0) ++ (⟨#[47]⟩ : ByteArray)).size + t106.size ≤ 9223372036854775807 then (if ((((⟨#[65, 87, 83, 52, 45, 72, 77, 65, 67, 45, 83, 72, 65, 50, 53, 54, 32, 67, 114, 101, 100, 101, 110, 116, 105, 97, 108, 61]⟩ : ByteArray) ++ a0_0) ++ (⟨#[47]⟩ : ByteArray)) ++ t106).size + 16 ≤ 9223372036854775807 then ((strings_Join.f l0_2 (⟨#[59]⟩ : ByteArray)).bind fun t107 => (if (((((⟨#[65, 87, 83, 52, 45, 72, 77, 65, 67, 45, 83, 72, 65, 50, 53, 54, 32, 67, 114, 101, 100, 101, 110, 116, 105, 97, 108, 61]⟩ : ByteArray) ++ a0_0) ++ (⟨#[47]⟩ : ByteArray)) ++ t106) ++ (⟨#[44, 32, 83, 105, 103, 110, 101, 100, 72, 101, 97, 100, 101, 114, 115, 61]⟩ : ByteArray)).size + t107.size ≤ 9223372036854775807 then (if ((((((⟨#[65, 87, 83, 52, 45, 72, 77, 65, 67, 45, 83, 72, 65, 50, 53, 54, 32, 67, 114, 101, 100, 101, 110, 116, 105, 97, 108, 61]⟩ : ByteArray) ++ a0_0) ++ (⟨#[47]⟩ : ByteArray)) ++ t106) ++ (⟨#[44, 32, 83, 105, 103, 110, 101, 100, 72, 101, 97, 100, 101, 114, 115, 61]⟩ : ByteArray)) ++ t107).size + 12 ≤ 9223372036854775807 then (if (((((((⟨#[65, 87, 83, 52, 45, 72, 77, 65, 67, 45, 83, 72, 65, 50, 53, 54, 32, 67, 114, 101, 100, 101, 110, 116, 105, 97, 108, 61]⟩ : ByteArray) ++ a0_0) ++ (⟨#[47]⟩ : ByteArray)) ++ t106) ++ (⟨#[44, 32, 83, 105, 103, 110, 101, 100, 72, 101, 97, 100, 101, 114, 115, 61]⟩ : ByteArray)) ++ t107) ++ (⟨#[44, 32, 83, 105, 103, 110, 97, 116, 117, 114, 101, 61]⟩ : ByteArray)).size + a0_3.size ≤ 9223372036854775807 then (some ((((((((⟨#[65, 87, 83, 52, 45, 72, 77, 65, 67, 45, 83, 72, 65, 50, 53, 54, 32, 67, 114, 101, 100, 101, 110, 116, 105, 97, 108, 61]⟩ : ByteArray) ++ a0_0) ++ (⟨#[47]⟩ : ByteArray)) ++ t106) ++ (⟨#[44, 32, 83, 105, 103, 110, 101, 100, 72, 101, 97, 100, 101, 114, 115, 61]⟩ : ByteArray)) ++ t107) ++ (⟨#[44, 32, 83, 105, 103, 110, 97, 116, 117, 114, 101, 61]⟩ : ByteArray)) ++ a0_3)) else (none)) else (none)) else (none))) else (none)) else (none))) else (none)) else (none)
def sigv4_ShowAuth.T1 : Bool × List (List Nat × List Nat) := (true, [([], []), ([0], [0]), ([1], [1]), ([2], [2]), ([], []), ([4], [4]), ([5], [5]), ([3, 6], [3, 6]), ([7], [7]), ([], []), ([9], [9]), ([10, 6], [10]), ([8, 11], [8, 11]), ([12], [12]), ([], []), ([14], [14]), ([13, 15], [13, 15]), ([16, 11, 0, 1, 2, 3, 4, 5, 6, 7, 8, 9, 10, 11, 12, 13, 14, 15, 16], [16])])
def sigv4_ShowAuth.B1 : List Nat := [0, 1, 3, 7, 0, 16, 48, 127, 255, 0, 512, 1648, 4095, 8191, 0, 16384, 65535, 131071]
theorem sigv4_ShowAuth.tab1 : rtab .any (opsOf Tryz.f10 1) = sigv4_ShowAuth.T1 := by kernel_rfl
theorem sigv4_ShowAuth.bits1 : waitsOk sigv4_ShowAuth.T1.2 sigv4_ShowAuth.B1 = true := by kernel_rfl
set_option maxHeartbeats 8000000 in
set_option maxRecDepth 100000 in
theorem sigv4_ShowAuth.calls (a0_0 : ByteArray) (a0_1 : ByteArray) (A0_2 : Option Addr) (c0_2 : Nat) (l0_2 : List ByteArray) (a0_3 : ByteArray) (r : ByteArray) (w : World) (hr0_2 : Kd.C Kd.string w A0_2 l0_2.length l0_2) (hc0_2 : l0_2.length ≤ c0_2) (h : sigv4_ShowAuth.f a0_0 a0_1 l0_2 a0_3 = some r) :
  Calls Tryz.prog 10 #[.agg #[.string a0_0, .string a0_1, .slice A0_2 l0_2.length c0_2, .string a0_3]] w fun e w' => e = .returned (.string r) ∧ Below w.heap.size w w' := by
 have hu26 := Tryz.underlying26
 have HR0_2 := Aside0.mk hr0_2
 have HC0_2 := Aside0.mk hc0_2
 clear hr0_2 hc0_2
 have HB := Aside0.mk (Below.refl w.heap.size w)
 have H : (if 28 + a0_0.size ≤ 9223372036854775807 then (if ((⟨#[65, 87, 83, 52, 45, 72, 77, 65, 67, 45, 83, 72, 65, 50, 53, 54, 32, 67, 114, 101, 100, 101, 110, 116, 105, 97, 108, 61]⟩ : ByteArray) ++ a0_0).size + 1 ≤ 9223372036854775807 then ((sigv4_scope.f a0_1).bind fun t106 => (if (((⟨#[65, 87, 83, 52, 45, 72, 77, 65, 67, 45, 83, 72, 65, 50, 53, 54, 32, 67, 114, 101, 100, 101, 110, 116, 105, 97, 108, 61]⟩ : ByteArray) ++ a0_0) ++ (⟨#[47]⟩ : ByteArray)).size + t106.size ≤ 9223372036854775807 then (if ((((⟨#[65, 87, 83, 52, 45, 72, 77, 65, 67, 45, 83, 72, 65, 50, 53, 54, 32, 67, 114, 101, 100, 101, 110, 116, 105, 97, 108, 61]⟩ : ByteArray) ++ a0_0) ++ (⟨#[47]⟩ : ByteArray)) ++ t106).size + 16 ≤ 9223372036854775807 then ((strings_Join.f l0_2 (⟨#[59]⟩ : ByteArray)).bind fun t107 => (if (((((⟨#[65, 87, 83, 52, 45, 72, 77, 65, 67, 45, 83, 72, 65, 50, 53, 54, 32, 67, 114, 101, 100, 101, 110, 116, 105, 97, 108, 61]⟩ : ByteArray) ++ a0_0) ++ (⟨#[47]⟩ : ByteArray)) ++ t106) ++ (⟨#[44, 32, 83, 105, 103, 110, 101, 100, 72, 101, 97, 100, 101, 114, 115, 61]⟩ : ByteArray)).size + t107.size ≤ 9223372036854775807 then (if ((((((⟨#[65, 87, 83, 52, 45, 72, 77, 65, 67, 45, 83, 72, 65, 50, 53, 54, 32, 67, 114, 101, 100, 101, 110, 116, 105, 97, 108, 61]⟩ : ByteArray) ++ a0_0) ++ (⟨#[47]⟩ : ByteArray)) ++ t106) ++ (⟨#[44, 32, 83, 105, 103, 110, 101, 100, 72, 101, 97, 100, 101, 114, 115, 61]⟩ : ByteArray)) ++ t107).size + 12 ≤ 9223372036854775807 then (if (((((((⟨#[65, 87, 83, 52, 45, 72, 77, 65, 67, 45, 83, 72, 65, 50, 53, 54, 32, 67, 114, 101, 100, 101, 110, 116, 105, 97, 108, 61]⟩ : ByteArray) ++ a0_0) ++ (⟨#[47]⟩ : ByteArray)) ++ t106) ++ (⟨#[44, 32, 83, 105, 103, 110, 101, 100, 72, 101, 97, 100, 101, 114, 115, 61]⟩ : ByteArray)) ++ t107) ++ (⟨#[44, 32, 83, 105, 103, 110, 97, 116, 117, 114, 101, 61]⟩ : ByteArray)).size + a0_3.size ≤ 9223372036854775807 then (some ((((((((⟨#[65, 87, 83, 52, 45, 72, 77, 65, 67, 45, 83, 72, 65, 50, 53, 54, 32, 67, 114, 101, 100, 101, 110, 116, 105, 97, 108, 61]⟩ : ByteArray) ++ a0_0) ++ (⟨#[47]⟩ : ByteArray)) ++ t106) ++ (⟨#[44, 32, 83, 105, 103, 110, 101, 100, 72, 101, 97, 100, 101, 114, 115, 61]⟩ : ByteArray)) ++ t107) ++ (⟨#[44, 32, 83, 105, 103, 110, 97, 116, 117, 114, 101, 61]⟩ : ByteArray)) ++ a0_3)) else (none)) else (none)) else (none))) else (none)) else (none))) else (none)) else (none)) = some r := h
 clear h
 by_cases c2 : 28 + a0_0.size ≤ 9223372036854775807
 rotate_left
 ·rw [if_neg c2] at H
  exact absurd H (by simp)
 rw [if_pos c2] at H
 have c2b0 := eq_true c2
 have c2b1 : decide (28 + a0_0.size ≤ 9223372036854775807) = true := decide_eq_true c2
 try have c2b2 : (9223372036854775807 < 28 + a0_0.size) = False := eq_false (Nat.not_lt.2 c2)
 by_cases c3 : ((⟨#[65, 87, 83, 52, 45, 72, 77, 65, 67, 45, 83, 72, 65, 50, 53, 54, 32, 67, 114, 101, 100, 101, 110, 116, 105, 97, 108, 61]⟩ : ByteArray) ++ a0_0).size + 1 ≤ 9223372036854775807
 rotate_left
 ·rw [if_neg c3] at H
  exact absurd H (by simp)
 rw [if_pos c3] at H
 have c3b0 := eq_true c3
 have c3b1 : decide (((⟨#[65, 87, 83, 52, 45, 72, 77, 65, 67, 45, 83, 72, 65, 50, 53, 54, 32, 67, 114, 101, 100, 101, 110, 116, 105, 97, 108, 61]⟩ : ByteArray) ++ a0_0).size + 1 ≤ 9223372036854775807) = true := decide_eq_true c3
 try have c3b2 : (9223372036854775807 < ((⟨#[65, 87, 83, 52, 45, 72, 77, 65, 67, 45, 83, 72, 65, 50, 53, 54, 32, 67, 114, 101, 100, 101, 110, 116, 105, 97, 108, 61]⟩ : ByteArray) ++ a0_0).size + 1) = False := eq_false (Nat.not_lt.2 c3)
 have c3b3 : (9223372036854775807 < 28 + a0_0.size + 1) = False := eq_false (Nat.not_lt.2 (by have h_ := c3; simp only [ByteArray.size_append] at h_; exact h_))
 replace H := Option.bind_eq_some_iff.mp H
 obtain ⟨t106, A40, H⟩ := H
 replace H : (if (((⟨#[65, 87, 83, 52, 45, 72, 77, 65, 67, 45, 83, 72, 65, 50, 53, 54, 32, 67, 114, 101, 100, 101, 110, 116, 105, 97, 108, 61]⟩ : ByteArray) ++ a0_0) ++ (⟨#[47]⟩ : ByteArray)).size + t106.size ≤ 9223372036854775807 then (if ((((⟨#[65, 87, 83, 52, 45, 72, 77, 65, 67, 45, 83, 72, 65, 50, 53, 54, 32, 67, 114, 101, 100, 101, 110, 116, 105, 97, 108, 61]⟩ : ByteArray) ++ a0_0) ++ (⟨#[47]⟩ : ByteArray)) ++ t106).size + 16 ≤ 9223372036854775807 then ((strings_Join.f l0_2 (⟨#[59]⟩ : ByteArray)).bind fun t107 => (if (((((⟨#[65, 87, 83, 52, 45, 72, 77, 65, 67, 45, 83, 72, 65, 50, 53, 54, 32, 67, 114, 101, 100, 101, 110, 116, 105, 97, 108, 61]⟩ : ByteArray) ++ a0_0) ++ (⟨#[47]⟩ : ByteArray)) ++ t106) ++ (⟨#[44, 32, 83, 105, 103, 110, 101, 100, 72, 101, 97, 100, 101, 114, 115, 61]⟩ : ByteArray)).size + t107.size ≤ 9223372036854775807 then (if ((((((⟨#[65, 87, 83, 52, 45, 72, 77, 65, 67, 45, 83, 72, 65, 50, 53, 54, 32, 67, 114, 101, 100, 101, 110, 116, 105, 97, 108, 61]⟩ : ByteArray) ++ a0_0) ++ (⟨#[47]⟩ : ByteArray)) ++ t106) ++ (⟨#[44, 32, 83, 105, 103, 110, 101, 100, 72, 101, 97, 100, 101, 114, 115, 61]⟩ : ByteArray)) ++ t107).size + 12 ≤ 9223372036854775807 then (if (((((((⟨#[65, 87, 83, 52, 45, 72, 77, 65, 67, 45, 83, 72, 65, 50, 53, 54, 32, 67, 114, 101, 100, 101, 110, 116, 105, 97, 108, 61]⟩ : ByteArray) ++ a0_0) ++ (⟨#[47]⟩ : ByteArray)) ++ t106) ++ (⟨#[44, 32, 83, 105, 103, 110, 101, 100, 72, 101, 97, 100, 101, 114, 115, 61]⟩ : ByteArray)) ++ t107) ++ (⟨#[44, 32, 83, 105, 103, 110, 97, 116, 117, 114, 101, 61]⟩ : ByteArray)).size + a0_3.size ≤ 9223372036854775807 then (some ((((((((⟨#[65, 87, 83, 52, 45, 72, 77, 65, 67, 45, 83, 72, 65, 50, 53, 54, 32, 67, 114, 101, 100, 101, 110, 116, 105, 97, 108, 61]⟩ : ByteArray) ++ a0_0) ++ (⟨#[47]⟩ : ByteArray)) ++ t106) ++ (⟨#[44, 32, 83, 105, 103, 110, 101, 100, 72, 101, 97, 100, 101, 114, 115, 61]⟩ : ByteArray)) ++ t107) ++ (⟨#[44, 32, 83, 105, 103, 110, 97, 116, 117, 114, 101, 61]⟩ : ByteArray)) ++ a0_3)) else (none)) else (none)) else (none))) else (none)) else (none)) = some r := H
 have A4 := Aside0.mk A40
 clear A40
 by_cases c5 : (((⟨#[65, 87, 83, 52, 45, 72, 77, 65, 67, 45, 83, 72, 65, 50, 53, 54, 32, 67, 114, 101, 100, 101, 110, 116, 105, 97, 108, 61]⟩ : ByteArray) ++ a0_0) ++ (⟨#[47]⟩ : ByteArray)).size + t106.size ≤ 9223372036854775807
 rotate_left
 ·rw [if_neg c5] at H
  exact absurd H (by simp)
 rw [if_pos c5] at H
 have c5b0 := eq_true c5
 have c5b1 : decide ((((⟨#[65, 87, 83, 52, 45, 72, 77, 65, 67, 45, 83, 72, 65, 50, 53, 54, 32, 67, 114, 101, 100, 101, 110, 116, 105, 97, 108, 61]⟩ : ByteArray) ++ a0_0) ++ (⟨#[47]⟩ : ByteArray)).size + t106.size ≤ 9223372036854775807) = true := decide_eq_true c5
 try have c5b2 : (9223372036854775807 < (((⟨#[65, 87, 83, 52, 45, 72, 77, 65, 67, 45, 83, 72, 65, 50, 53, 54, 32, 67, 114, 101, 100, 101, 110, 116, 105, 97, 108, 61]⟩ : ByteArray) ++ a0_0) ++ (⟨#[47]⟩ : ByteArray)).size + t106.size) = False := eq_false (Nat.not_lt.2 c5)
 have c5b3 : (9223372036854775807 < 28 + a0_0.size + 1 + t106.size) = False := eq_false (Nat.not_lt.2 (by have h_ := c5; simp only [ByteArray.size_append] at h_; exact h_))
 by_cases c6 : ((((⟨#[65, 87, 83, 52, 45, 72, 77, 65, 67, 45, 83, 72, 65, 50, 53, 54, 32, 67, 114, 101, 100, 101, 110, 116, 105, 97, 108, 61]⟩ : ByteArray) ++ a0_0) ++ (⟨#[47]⟩ : ByteArray)) ++ t106).size + 16 ≤ 9223372036854775807
 rotate_left
 ·rw [if_neg c6] at H
  exact absurd H (by simp)
 rw [if_pos c6] at H
 have c6b0 := eq_true c6
 have c6b1 : decide (((((⟨#[65, 87, 83, 52, 45, 72, 77, 65, 67, 45, 83, 72, 65, 50, 53, 54, 32, 67, 114, 101, 100, 101, 110, 116, 105, 97, 108, 61]⟩ : ByteArray) ++ a0_0) ++ (⟨#[47]⟩ : ByteArray)) ++ t106).size + 16 ≤ 9223372036854775807) = true := decide_eq_true c6
 try have c6b2 : (9223372036854775807 < ((((⟨#[65, 87, 83, 52, 45, 72, 77, 65, 67, 45, 83, 72, 65, 50, 53, 54, 32, 67, 114, 101, 100, 101, 110, 116, 105, 97, 108, 61]⟩ : ByteArray) ++ a0_0) ++ (⟨#[47]⟩ : ByteArray)) ++ t106).size + 16) = False := eq_false (Nat.not_lt.2 c6)
 have c6b3 : (9223372036854775807 < 28 + a0_0.size + 1 + t106.size + 16) = False := eq_false (Nat.not_lt.2 (by have h_ := c6; simp only [ByteArray.size_append] at h_; exact h_))
 replace H := Option.bind_eq_some_iff.mp H
 obtain ⟨t107, A70, H⟩ := H
 replace H : (if (((((⟨#[65, 87, 83, 52, 45, 72, 77, 65, 67, 45, 83, 72, 65, 50, 53, 54, 32, 67, 114, 101, 100, 101, 110, 116, 105, 97, 108, 61]⟩ : ByteArray) ++ a0_0) ++ (⟨#[47]⟩ : ByteArray)) ++ t106) ++ (⟨#[44, 32, 83, 105, 103, 110, 101, 100, 72, 101, 97, 100, 101, 114, 115, 61]⟩ : ByteArray)).size + t107.size ≤ 9223372036854775807 then (if ((((((⟨#[65, 87, 83, 52, 45, 72, 77, 65, 67, 45, 83, 72, 65, 50, 53, 54, 32, 67, 114, 101, 100, 101, 110, 116, 105, 97, 108, 61]⟩ : ByteArray) ++ a0_0) ++ (⟨#[47]⟩ : ByteArray)) ++ t106) ++ (⟨#[44, 32, 83, 105, 103, 110, 101, 100, 72, 101, 97, 100, 101, 114, 115, 61]⟩ : ByteArray)) ++ t107).size + 12 ≤ 9223372036854775807 then (if (((((((⟨#[65, 87, 83, 52, 45, 72, 77, 65, 67, 45, 83, 72, 65, 50, 53, 54, 32, 67, 114, 101, 100, 101, 110, 116, 105, 97, 108, 61]⟩ : ByteArray) ++ a0_0) ++ (⟨#[47]⟩ : ByteArray)) ++ t106) ++ (⟨#[44, 32, 83, 105, 103, 110, 101, 100, 72, 101, 97, 100, 101, 114, 115, 61]⟩ : ByteArray)) ++ t107) ++ (⟨#[44, 32, 83, 105, 103, 110, 97, 116, 117, 114, 101, 61]⟩ : ByteArray)).size + a0_3.size ≤ 9223372036854775807 then (some ((((((((⟨#[65, 87, 83, 52, 45, 72, 77, 65, 67, 45, 83, 72, 65, 50, 53, 54, 32, 67, 114, 101, 100, 101, 110, 116, 105, 97, 108, 61]⟩ : ByteArray) ++ a0_0) ++ (⟨#[47]⟩ : ByteArray)) ++ t106) ++ (⟨#[44, 32, 83, 105, 103, 110, 101, 100, 72, 101, 97, 100, 101, 114, 115, 61]⟩ : ByteArray)) ++ t107) ++ (⟨#[44, 32, 83, 105, 103, 110, 97, 116, 117, 114, 101, 61]⟩ : ByteArray)) ++ a0_3)) else (none)) else (none)) else (none)) = some r := H
 have A7 := Aside0.mk A70
 clear A70
 by_cases c8 : (((((⟨#[65, 87, 83, 52, 45, 72, 77, 65, 67, 45, 83, 72, 65, 50, 53, 54, 32, 67, 114, 101, 100, 101, 110, 116, 105, 97, 108, 61]⟩ : ByteArray) ++ a0_0) ++ (⟨#[47]⟩ : ByteArray)) ++ t106) ++ (⟨#[44, 32, 83, 105, 103, 110, 101, 100, 72, 101, 97, 100, 101, 114, 115, 61]⟩ : ByteArray)).size + t107.size ≤ 9223372036854775807
 rotate_left
 ·rw [if_neg c8] at H
  exact absurd H (by simp)
 rw [if_pos c8] at H
 have c8b0 := eq_true c8
 have c8b1 : decide ((((((⟨#[65, 87, 83, 52, 45, 72, 77, 65, 67, 45, 83, 72, 65, 50, 53, 54, 32, 67, 114, 101, 100, 101, 110, 116, 105, 97, 108, 61]⟩ : ByteArray) ++ a0_0) ++ (⟨#[47]⟩ : ByteArray)) ++ t106) ++ (⟨#[44, 32, 83, 105, 103, 110, 101, 100, 72, 101, 97, 100, 101, 114, 115, 61]⟩ : ByteArray)).size + t107.size ≤ 9223372036854775807) = true := decide_eq_true c8
 try have c8b2 : (9223372036854775807 < (((((⟨#[65, 87, 83, 52, 45, 72, 77, 65, 67, 45, 83, 72, 65, 50, 53, 54, 32, 67, 114, 101, 100, 101, 110, 116, 105, 97, 108, 61]⟩ : ByteArray) ++ a0_0) ++ (⟨#[47]⟩ : ByteArray)) ++ t106) ++ (⟨#[44, 32, 83, 105, 103, 110, 101, 100, 72, 101, 97, 100, 101, 114, 115, 61]⟩ : ByteArray)).size + t107.size) = False := eq_false (Nat.not_lt.2 c8)
 have c8b3 : (9223372036854775807 < 28 + a0_0.size + 1 + t106.size + 16 + t107.size) = False := eq_false (Nat.not_lt.2 (by have h_ := c8; simp only [ByteArray.size_append] at h_; exact h_))
 by_cases c9 : ((((((⟨#[65, 87, 83, 52, 45, 72, 77, 65, 67, 45, 83, 72, 65, 50, 53, 54, 32, 67, 114, 101, 100, 101, 110, 116, 105, 97, 108, 61]⟩ : ByteArray) ++ a0_0) ++ (⟨#[47]⟩ : ByteArray)) ++ t106) ++ (⟨#[44, 32, 83, 105, 103, 110, 101, 100, 72, 101, 97, 100, 101, 114, 115, 61]⟩ : ByteArray)) ++ t107).size + 12 ≤ 9223372036854775807
 rotate_left
 ·rw [if_neg c9] at H
  exact absurd H (by simp)
 rw [if_pos c9] at H
 have c9b0 := eq_true c9
 have c9b1 : decide (((((((⟨#[65, 87, 83, 52, 45, 72, 77, 65, 67, 45, 83, 72, 65, 50, 53, 54, 32, 67, 114, 101, 100, 101, 110, 116, 105, 97, 108, 61]⟩ : ByteArray) ++ a0_0) ++ (⟨#[47]⟩ : ByteArray)) ++ t106) ++ (⟨#[44, 32, 83, 105, 103, 110, 101, 100, 72, 101, 97, 100, 101, 114, 115, 61]⟩ : ByteArray)) ++ t107).size + 12 ≤ 9223372036854775807) = true := decide_eq_true c9
 try have c9b2 : (9223372036854775807 < ((((((⟨#[65, 87, 83, 52, 45, 72, 77, 65, 67, 45, 83, 72, 65, 50, 53, 54, 32, 67, 114, 101, 100, 101, 110, 116, 105, 97, 108, 61]⟩ : ByteArray) ++ a0_0) ++ (⟨#[47]⟩ : ByteArray)) ++ t106) ++ (⟨#[44, 32, 83, 105, 103, 110, 101, 100, 72, 101, 97, 100, 101, 114, 115, 61]⟩ : ByteArray)) ++ t107).size + 12) = False := eq_false (Nat.not_lt.2 c9)
 have c9b3 : (9223372036854775807 < 28 + a0_0.size + 1 + t106.size + 16 + t107.size + 12) = False := eq_false (Nat.not_lt.2 (by have h_ := c9; simp only [ByteArray.size_append] at h_; exact h_))
 by_cases c10 : (((((((⟨#[65, 87, 83, 52, 45, 72, 77, 65, 67, 45, 83, 72, 65, 50, 53, 54, 32, 67, 114, 101, 100, 101, 110, 116, 105, 97, 108, 61]⟩ : ByteArray) ++ a0_0) ++ (⟨#[47]⟩ : ByteArray)) ++ t106) ++ (⟨#[44, 32, 83, 105, 103, 110, 101, 100, 72, 101, 97, 100, 101, 114, 115, 61]⟩ : ByteArray)) ++ t107) ++ (⟨#[44, 32, 83, 105, 103, 110, 97, 116, 117, 114, 101, 61]⟩ : ByteArray)).size + a0_3.size ≤ 9223372036854775807
 rotate_left
 ·rw [if_neg c10] at H
  exact absurd H (by simp)
 rw [if_pos c10] at H
 have c10b0 := eq_true c10
 have c10b1 : decide ((((((((⟨#[65, 87, 83, 52, 45, 72, 77, 65, 67, 45, 83, 72, 65, 50, 53, 54, 32, 67, 114, 101, 100, 101, 110, 116, 105, 97, 108, 61]⟩ : ByteArray) ++ a0_0) ++ (⟨#[47]⟩ : ByteArray)) ++ t106) ++ (⟨#[44, 32, 83, 105, 103, 110, 101, 100, 72, 101, 97, 100, 101, 114, 115, 61]⟩ : ByteArray)) ++ t107) ++ (⟨#[44, 32, 83, 105, 103, 110, 97, 116, 117, 114, 101, 61]⟩ : ByteArray)).size + a0_3.size ≤ 9223372036854775807) = true := decide_eq_true c10
 try have c10b2 : (9223372036854775807 < (((((((⟨#[65, 87, 83, 52, 45, 72, 77, 65, 67, 45, 83, 72, 65, 50, 53, 54, 32, 67, 114, 101, 100, 101, 110, 116, 105, 97, 108, 61]⟩ : ByteArray) ++ a0_0) ++ (⟨#[47]⟩ : ByteArray)) ++ t106) ++ (⟨#[44, 32, 83, 105, 103, 110, 101, 100, 72, 101, 97, 100, 101, 114, 115, 61]⟩ : ByteArray)) ++ t107) ++ (⟨#[44, 32, 83, 105, 103, 110, 97, 116, 117, 114, 101, 61]⟩ : ByteArray)).size + a0_3.size) = False := eq_false (Nat.not_lt.2 c10)
 have c10b3 : (9223372036854775807 < 28 + a0_0.size + 1 + t106.size + 16 + t107.size + 12 + a0_3.size) = False := eq_false (Nat.not_lt.2 (by have h_ := c10; simp only [ByteArray.size_append] at h_; exact h_))
 obtain rfl := Option.some.inj H
 go_enter Tryz.func10, Tryz.ntmps10
 try go_wp2_with (first | ((with_reducible refine gate_dst (N := 1) rfl ?_); refine box_event ?hg (N := 1) ?hd (cs := #[.string a0_0, .string a0_1, .slice A0_2 l0_2.length c0_2, .string a0_3]) (t := 26) ?hr ?_; (case hd => rfl); (case hg => rfl); (case hr => first | (go_simp; done) | (go_simp; rfl)); intro gb105 hg w11 hbox hb; have n0_ := Aside0.mk (below_step hb0_ hb); have n1_ := Aside0.mk (hbox); have n2_ := Aside0.mk ((by rw [hg]; exact (below_size hb0_) : w.heap.size ≤ gb105)); have n3_ := Aside0.mk ((by rw [hg]; exact (below_size hb0_) : w.heap.size ≤ gb105)); clear HB; have HB := n0_; have BK105 := n1_; have GW105 := n2_; have GE105 := n3_; clear n0_ n1_ n2_ n3_; clear hb hbox hg))
 have n0_ := Aside0.mk (blk_drew BK105.out)
 have n1_ := Aside0.mk (below_drew1 HB.out)
 clear BK105
 clear HB
 have BK105 := n0_
 have HB := n1_
 clear n0_ n1_
 refine start_ (n := 18) (S := fun w' => w'.cell? ⟨gb105, 0, none⟩ = some (.string a0_0) ∧ w'.cell? ⟨gb105, 1, none⟩ = some (.string a0_1) ∧ w'.cell? ⟨gb105, 2, none⟩ = some (.slice A0_2 l0_2.length c0_2) ∧ w'.cell? ⟨gb105, 3, none⟩ = some (.string a0_3)) (ds := []) (fl_ 0 18) (by kernel_rfl) rfl rfl ⟨(blk_cell BK105.out 0).trans rfl, (blk_cell BK105.out 1).trans rfl, (blk_cell BK105.out 2).trans rfl, (blk_cell BK105.out 3).trans rfl⟩ (fun hHeld => ?_); refine with_tabW sigv4_ShowAuth.tab1 sigv4_ShowAuth.bits1 (fun HT_ HW_ => ?_)
 generalize w11.drew = w12 at BK105 HB hHeld ⊢
 refine puw_ 0 3 1 18 HT_.out (h := ?_)
 refine pure_ (i := 4) (N := some 7) (v := ?_) (a' := ?_) #[true, false, false, false, true, false, false, false, false, false, false, false, false, false, false, false, false, false] rfl rfl (any_of HT_.out (by kernel_rfl)) (fun _ _ _ h => h) (Or.inl ⟨by rfl, ?_⟩) ?_ ?_
 rotate_left
 ·intro w'
  go_simp
  with_reducible rfl
 rotate_left
 ·simp only [Act.put, spx_]
  rfl
 refine pure_ (i := 9) (N := some 12) (v := ?_) (a' := ?_) #[true, false, false, false, true, false, false, false, false, true, false, false, false, false, false, false, false, false] rfl rfl (any_of HT_.out (by kernel_rfl)) (fun _ _ _ h => h) (Or.inl ⟨by rfl, ?_⟩) ?_ ?_
 rotate_left
 ·intro w'
  go_simp
  with_reducible rfl
 rotate_left
 ·simp only [Act.put, spx_]
  rfl
 refine pure_ (i := 14) (N := some 17) (v := ?_) (a' := ?_) #[true, false, false, false, true, false, false, false, false, true, false, false, false, false, true, false, false, false] rfl rfl (any_of HT_.out (by kernel_rfl)) (fun _ _ _ h => h) (Or.inl ⟨by rfl, ?_⟩) ?_ ?_
 rotate_left
 ·intro w'
  go_simp
  with_reducible rfl
 rotate_left
 ·simp only [Act.put, spx_]
  rfl
 refine take_ (i := 1) (N := some 4) (v := ?_) (a' := ?_) #[true, true, false, false, true, false, false, false, false, true, false, false, false, false, true, false, false, false] rfl rfl (take_ofW HT_.out HW_.out (by kernel_rfl)) (fun _ _ _ h => h) (Or.inl ⟨by rfl, ?_⟩) hHeld ?_ ?_
 rotate_left
 ·rintro w' ⟨s0, s1, s2, s3⟩
  go_simp
  with_reducible rfl
 rotate_left
 ·simp only [Act.put, spx_]
  rfl
 refine pure_ (i := 2) (N := some 5) (v := ?_) (a' := ?_) #[true, true, true, false, true, false, false, false, false, true, false, false, false, false, true, false, false, false] rfl rfl (any_of HT_.out (by kernel_rfl)) (fun _ _ _ h => h) (Or.inl ⟨by rfl, ?_⟩) ?_ ?_
 rotate_left
 ·intro w'
  go_simp
  with_reducible rfl
 rotate_left
 ·simp only [Act.put, spx_]
  rfl
 refine pure_ (i := 3) (N := some 6) (v := ?_) (a' := ?_) #[true, true, true, true, true, false, false, false, false, true, false, false, false, false, true, false, false, false] rfl rfl (any_of HT_.out (by kernel_rfl)) (fun _ _ _ h => h) (Or.inl ⟨by rfl, ?_⟩) ?_ ?_
 rotate_left
 ·intro w'
  go_simp
  with_reducible rfl
 rotate_left
 ·simp only [Act.put, spx_]
  rfl
 refine take_ (i := 5) (N := some 8) (v := ?_) (a' := ?_) #[true, true, true, true, true, true, false, false, false, true, false, false, false, false, true, false, false, false] rfl rfl (take_ofW HT_.out HW_.out (by kernel_rfl)) (fun _ _ _ h => h) (Or.inl ⟨by rfl, ?_⟩) hHeld ?_ ?_
 rotate_left
 ·rintro w' ⟨s0, s1, s2, s3⟩
  go_simp
  with_reducible rfl
 rotate_left
 ·simp only [Act.put, spx_]
  rfl
 refine take_ (i := 10) (N := some 13) (v := ?_) (a' := ?_) #[true, true, true, true, true, true, false, false, false, true, true, false, false, false, true, false, false, false] rfl rfl (take_ofW HT_.out HW_.out (by kernel_rfl)) (fun _ _ _ h => h) (Or.inl ⟨by rfl, ?_⟩) hHeld ?_ ?_
 rotate_left
 ·rintro w' ⟨s0, s1, s2, s3⟩
  go_simp
  with_reducible rfl
 rotate_left
 ·simp only [Act.put, spx_]
  rfl
 refine take_ (i := 15) (N := some 18) (v := ?_) (a' := ?_) #[true, true, true, true, true, true, false, false, false, true, true, false, false, false, true, true, false, false] rfl rfl (take_ofW HT_.out HW_.out (by kernel_rfl)) (fun _ _ _ h => h) (Or.inl ⟨by rfl, ?_⟩) hHeld ?_ ?_
 rotate_left
 ·rintro w' ⟨s0, s1, s2, s3⟩
  go_simp
  with_reducible rfl
 rotate_left
 ·simp only [Act.put, spx_]
  rfl
 refine one_ (i := 6) (N := some 9) #[true, true, true, true, true, true, true, false, false, true, true, false, false, false, true, true, false, false] rfl rfl (one_of HT_.out (by kernel_rfl)) (by decide) (fun K hK => ?_)
 refine goes_ Tryz.func20 (by kernel_rfl) rfl #[.string a0_1] (by rfl) rfl rfl (by (try simp only [List.map_toArray, List.map_cons, List.map_nil]); first | done | rfl | (simp only [List.length_drop, List.length_take]; rfl)) ?_
 with_reducible refine (sigv4_scope.calls a0_1 t106 _ A4.out).mono ?_
 rintro e w13 ⟨rfl, hb⟩
 refine ⟨_, rfl, ?_⟩
 have n0_ := Aside0.mk (blk_below (g := gb105) (o := .cells #[.string a0_0, .string a0_1, .slice A0_2 l0_2.length c0_2, .string a0_3] 26 (0, 0)) (by (with_reducible repeat (first | refine blk_drewN ?_ _ | refine blk_drew ?_ | refine blk_alloc ?_ _)); exact BK105.out) hb)
 have n1_ := Aside0.mk (below_step hb12_ hb)
 clear BK105
 clear HB
 have BK105 := n0_
 have HB := n1_
 clear n0_ n1_
 (try clear hb)
 (try clear hb2)
 (try clear hk)
 (try clear hi)
 refine hK.out _ _ ⟨(blk_cell BK105.out 0).trans rfl, (blk_cell BK105.out 1).trans rfl, (blk_cell BK105.out 2).trans rfl, (blk_cell BK105.out 3).trans rfl⟩ (fun hHeld => ?_)
 clear hK K
 refine norm_ (a' := ?_) ?_ ?_
 rotate_left
 ·show Act.put _ (some 9) _ = _
  simp only [Act.put, spx_]
  rfl
 refine pure_ (i := 7) (N := some 10) (v := ?_) (a' := ?_) #[true, true, true, true, true, true, true, true, false, true, true, false, false, false, true, true, false, false] rfl rfl (any_of HT_.out (by kernel_rfl)) (fun _ _ _ h => h) (Or.inl ⟨by rfl, ?_⟩) ?_ ?_
 rotate_left
 ·intro w'
  go_simp
  with_reducible rfl
 rotate_left
 ·simp only [Act.put, spx_]
  rfl
 refine pure_ (i := 8) (N := some 11) (v := ?_) (a' := ?_) #[true, true, true, true, true, true, true, true, true, true, true, false, false, false, true, true, false, false] rfl rfl (any_of HT_.out (by kernel_rfl)) (fun _ _ _ h => h) (Or.inl ⟨by rfl, ?_⟩) ?_ ?_
 rotate_left
 ·intro w'
  go_simp
  with_reducible rfl
 rotate_left
 ·simp only [Act.put, spx_]
  rfl
 refine one_ (i := 11) (N := some 14) #[true, true, true, true, true, true, true, true, true, true, true, true, false, false, true, true, false, false] rfl rfl (one_of HT_.out (by kernel_rfl)) (by decide) (fun K hK => ?_)
 refine goes_ Tryz.func26 (by kernel_rfl) rfl #[.slice A0_2 l0_2.length c0_2, .string (⟨#[59]⟩ : ByteArray)] (by rfl) rfl rfl (by (try simp only [List.map_toArray, List.map_cons, List.map_nil]); first | done | rfl | (simp only [List.length_drop, List.length_take]; rfl)) ?_
 with_reducible refine (strings_Join.calls _ _ l0_2 (⟨#[59]⟩ : ByteArray) t107 _ ?side1 ?side2 A7.out).mono ?_
 (case side1 => repeat (first | exact (Kd.C_below HR0_2.out HB.out) | (with_reducible refine Kd.C_alloc ?_ _) | (with_reducible refine Kd.C_drewN ?_ _) | (with_reducible refine Kd.C_drew ?_)))
 (case side2 => exact HC0_2.out)
 rintro e w14 ⟨rfl, hb⟩
 refine ⟨_, rfl, ?_⟩
 have n0_ := Aside0.mk (blk_below (g := gb105) (o := .cells #[.string a0_0, .string a0_1, .slice A0_2 l0_2.length c0_2, .string a0_3] 26 (0, 0)) (by (with_reducible repeat (first | refine blk_drewN ?_ _ | refine blk_drew ?_ | refine blk_alloc ?_ _)); exact BK105.out) hb)
 have n1_ := Aside0.mk (below_step hb12_ hb)
 clear BK105
 clear HB
 have BK105 := n0_
 have HB := n1_
 clear n0_ n1_
 (try clear hb)
 (try clear hb2)
 (try clear hk)
 (try clear hi)
 refine hK.out _ _ ⟨(blk_cell BK105.out 0).trans rfl, (blk_cell BK105.out 1).trans rfl, (blk_cell BK105.out 2).trans rfl, (blk_cell BK105.out 3).trans rfl⟩ (fun hHeld => ?_)
 clear hK K
 refine norm_ (a' := ?_) ?_ ?_
 rotate_left
 ·show Act.put _ (some 14) _ = _
  simp only [Act.put, spx_]
  rfl
 refine pure_ (i := 12) (N := some 15) (v := ?_) (a' := ?_) #[true, true, true, true, true, true, true, true, true, true, true, true, true, false, true, true, false, false] rfl rfl (any_of HT_.out (by kernel_rfl)) (fun _ _ _ h => h) (Or.inl ⟨by rfl, ?_⟩) ?_ ?_
 rotate_left
 ·intro w'
  go_simp
  with_reducible rfl
 rotate_left
 ·simp only [Act.put, spx_]
  rfl
 refine puw_ 13 16 16 18 HT_.out (h := ?_)
 refine puw_ 16 19 17 18 HT_.out (h := ?_)
 refine puw_ 17 2 18 18 HT_.out (h := ?_)
 refine done_ (done_of HT_.out (by kernel_rfl)) ?_
 try go_wp2
 go_ret
 exact ⟨by first | rfl | (simp [errW_none, errW_some] <;> rfl) | (simp [*, errW_none, errW_some] <;> rfl), hb12_⟩
def sigv4_only.f (a0 : ByteArray) (a1 : ByteArray) (a2 : Int) : Option (Bool) := if a0.size ≤ 100000000 then some ((bl a0).all (fun c => decide (0 ≤ Lib.indexByte (bl a1) c)) && !(bl a0).isEmpty && decide ((a0.size : Int) ≤ a2)) else none
set_option maxRecDepth 100000 in
set_option maxHeartbeats 4000000 in
theorem sigv4_only.calls (a0 : ByteArray) (a1 : ByteArray) (a2 : Int) (r : Bool) (w : World) (h : sigv4_only.f a0 a1 a2 = some r) :
  Calls Tryz.prog 46 #[.string a0, .string a1, .int .i64 a2] w fun e w' => e = .returned (.bool r) ∧ Below w.heap.size w w' := by
 unfold sigv4_only.f at h
 split at h
 case isFalse => cases h
 case isTrue hl =>
 obtain rfl := Option.some.inj h
 have h1 := only_any (bl a0) (bl a1) a2 w (by rw [Lib.size_eq] at hl; exact Nat.le_trans hl (by decide))
 rw [show str (bl a0) = .string a0 from congrArg Value.string (Lib.mk_data a0), show str (bl a1) = .string a1 from congrArg Value.string (Lib.mk_data a1)] at h1
 refine h1.mono ?_
 rintro e w' ⟨rfl, hb⟩
 refine ⟨?_, hb⟩
 unfold onlyB
 rw [Bool.and_assoc, show a0.size = (bl a0).length from Lib.size_eq a0]
def strings_ToUpper.f (a0 : ByteArray) : Option (ByteArray) := if bl a0 = (List.range 26).map (fun i => (97 + i).toUInt8) then some (ba ((List.range 26).map (fun i => (65 + i).toUInt8))) else none
set_option maxRecDepth 100000 in
set_option maxHeartbeats 4000000 in
theorem strings_ToUpper.calls (a0 : ByteArray) (r : ByteArray) (w : World) (h : strings_ToUpper.f a0 = some r) :
  Calls Tryz.prog 47 #[.string a0] w fun e w' => e = .returned (.string r) ∧ Below w.heap.size w w' := by
 unfold strings_ToUpper.f at h
 split at h
 case isFalse => cases h
 case isTrue hl =>
 obtain rfl := Option.some.inj h
 have e : a0 = lowS := by
  have h9 : (⟨(bl a0).toArray⟩ : ByteArray) = ⟨((List.range 26).map (fun i => (97 + i).toUInt8)).toArray⟩ := by rw [hl]
  rw [show (⟨(bl a0).toArray⟩ : ByteArray) = a0 from Lib.mk_data a0] at h9
  rw [h9]; rfl
 subst e
 exact to_upper w
def strings_Compare.f (a0 : ByteArray) (a1 : ByteArray) : Option (Int) := some (Lib.compareBytes (bl a0) (bl a1))
set_option maxRecDepth 100000 in
set_option maxHeartbeats 4000000 in
theorem strings_Compare.calls (a0 : ByteArray) (a1 : ByteArray) (r : Int) (w : World) (h : strings_Compare.f a0 a1 = some r) :
  Calls Tryz.prog 85 #[.string a0, .string a1] w fun e w' => e = .returned (.int .i64 r) ∧ Below w.heap.size w w' := by
 obtain rfl := Option.some.inj h
 refine (Tryz.strings_Compare a0 a1 w).mono ?_
 rintro e w' ⟨rfl, rfl⟩
 exact ⟨rfl, Below.refl _ _⟩
def sigv4_names.l0 : Nat → List ByteArray → ByteArray → List ByteArray → Int → Int → Option (Bool)
 | 0, _, _, _, _, _ => none
 | k + 1, x0, x3, x6, x7, x8 => if x8 < x7 then (if 0 ≤ x8 then (if x8 < (x6.length : Int) then ((sigv4_only.f (rdOf ByteArray.empty x6 x8) (⟨#[97, 98, 99, 100, 101, 102, 103, 104, 105, 106, 107, 108, 109, 110, 111, 112, 113, 114, 115, 116, 117, 118, 119, 120, 121, 122, 48, 49, 50, 51, 52, 53, 54, 55, 56, 57, 45, 95]⟩ : ByteArray) 64).bind fun t109 => (if t109 = true then ((strings_Compare.f x3 (rdOf ByteArray.empty x6 x8)).bind fun t110 => (if t110 ≥ 0 then (some false) else (sigv4_names.l0 k x0 (rdOf ByteArray.empty x6 x8) x6 x7 (wrap64 (x8 + 1))))) else (some false))) else (none)) else (none)) else (if (x0.length : Int) > 0 then (some (decide ((x0.length : Int) ≤ 24))) else (some false))
def sigv4_names.f (k : Nat) (l0 : List ByteArray) : Option (Bool) := sigv4_names.l0 k l0 (⟨#[]⟩ : ByteArray) l0 (l0.length : Int) 0
set_option maxHeartbeats 8000000 in
set_option maxRecDepth 100000 in
theorem sigv4_names.calls (k : Nat) (A0 : Option Addr) (c0 : Nat) (l0 : List ByteArray) (r : Bool) (w : World) (hr0 : Kd.C Kd.string w A0 l0.length l0) (hc0 : l0.length ≤ c0) (h : sigv4_names.f k l0 = some r) :
  Calls Tryz.prog 48 #[.slice A0 l0.length c0] w fun e w' => e = .returned (.bool r) ∧ Below w.heap.size w w' := by
 have HR0 := Aside0.mk hr0
 have HC0 := Aside0.mk hc0
 clear hr0 hc0
 have HB := Aside0.mk (Below.refl w.heap.size w)
 have H : (sigv4_names.l0 k l0 (⟨#[]⟩ : ByteArray) l0 (l0.length : Int) 0) = some r := h
 clear h
 have H' := Aside0.mk H
 clear H
 go_enter Tryz.func48, Tryz.ntmps48
 go_wp2
 go_loopg [3, 8] k (fun kq v3 v8 w' => ∃ (x3_1 : ByteArray) (x8_1 : Int), v3 = .string x3_1 ∧ v8 = .int .i64 x8_1 ∧ Aside0 (sigv4_names.l0 kq l0 x3_1 l0 (l0.length : Int) x8_1 = some r) ∧ Aside0 (kq ≤ k) ∧ Aside0 (Below w.heap.size w w'))
 case atStart => exact ⟨((⟨#[]⟩ : ByteArray)), (0), (by first | rfl | (simp; done) | (simp [*]; done)), (by first | rfl | (simp; done) | (simp [*]; done)), H', ⟨Nat.le_refl _⟩, ⟨hb0_⟩⟩
 case round =>
  clear H'
  obtain ⟨x3_1, x8_1, rfl, rfl, HA, HK1, HB⟩ := hrel
  cases gk with
  | zero => exact absurd HA.out (by simp [sigv4_names.l0])
  | succ k1 =>
   have H := HA.out
   clear HA
   simp only [sigv4_names.l0] at H
   by_cases c2 : x8_1 < (l0.length : Int)
   rotate_left
   ·rw [if_neg c2] at H
    have c2b0 : decide (x8_1 < (l0.length : Int)) = false := decide_eq_false c2
    clear c2
    by_cases c14 : (l0.length : Int) > 0
    ·rw [if_pos c14] at H
     have c14b0 : decide (0 < (l0.length : Int)) = true := decide_eq_true c14
     have c14b1 : decide (0 < l0.length) = true := decide_eq_true (by omega)
     clear c14
     obtain rfl := Option.some.inj H
     go_wp2
     go_ret
     exact ⟨by first | rfl | (simp [errW_none, errW_some] <;> rfl) | (simp [*, errW_none, errW_some] <;> rfl), hb0_⟩
    rw [if_neg c14] at H
    have c14b0 : decide (0 < (l0.length : Int)) = false := decide_eq_false c14
    have c14b1 : decide (0 < l0.length) = false := decide_eq_false (by omega)
    clear c14
    obtain rfl := Option.some.inj H
    go_wp2
    go_ret
    exact ⟨by first | rfl | (simp [errW_none, errW_some] <;> rfl) | (simp [*, errW_none, errW_some] <;> rfl), hb0_⟩
   rw [if_pos c2] at H
   have c2b0 : decide (x8_1 < (l0.length : Int)) = true := decide_eq_true c2
   clear c2
   by_cases c3 : 0 ≤ x8_1
   rotate_left
   ·rw [if_neg c3] at H
    exact absurd H (by simp)
   rw [if_pos c3] at H
   have c3b0 : decide (0 ≤ x8_1) = true := decide_eq_true c3
   clear c3
   by_cases c4 : x8_1 < (l0.length : Int)
   rotate_left
   ·rw [if_neg c4] at H
    exact absurd H (by simp)
   rw [if_pos c4] at H
   have c4b0 : decide (x8_1 < (l0.length : Int)) = true := decide_eq_true c4
   clear c4
   replace H := Option.bind_eq_some_iff.mp H
   obtain ⟨t109, A50, H⟩ := H
   replace H : (if t109 = true then ((strings_Compare.f x3_1 (rdOf ByteArray.empty l0 x8_1)).bind fun t110 => (if t110 ≥ 0 then (some false) else (sigv4_names.l0 k1 l0 (rdOf ByteArray.empty l0 x8_1) l0 (l0.length : Int) (wrap64 (x8_1 + 1))))) else (some false)) = some r := H
   have A5 := Aside0.mk A50
   clear A50
   by_cases c6 : t109 = true
   rotate_left
   ·replace c6 := Bool.eq_false_iff.mpr c6
    subst c6
    have H1 : (some false) = some r := by rw [if_neg (show ¬ (false = true) by decide)] at H; exact H
    clear H
    have H := H1
    clear H1
    obtain rfl := Option.some.inj H
    have p108 : 0 ≤ (x8_1 : Int) := ode_
    have q108 : x8_1 < (l0.length : Int) := ode_
    obtain ⟨ad108, e108, hx108_0⟩ := Kd.at_string HR0.out x8_1 p108 q108
    cases e108
    replace hx108_0 := (HB.out.cell (World.block_lt_of_cell? w _ hx108_0)).trans hx108_0
    replace p108 := eq_true p108
    replace q108 := eq_true q108
    go_wp2_with (first | ((with_reducible refine gate_callee (f := 46) rfl ?_); refine goesL_ (some 13) rfl rfl Tryz.func46 (by kernel_rfl) rfl #[.string (rdOf ByteArray.empty l0 x8_1), .string (⟨#[97, 98, 99, 100, 101, 102, 103, 104, 105, 106, 107, 108, 109, 110, 111, 112, 113, 114, 115, 116, 117, 118, 119, 120, 121, 122, 48, 49, 50, 51, 52, 53, 54, 55, 56, 57, 45, 95]⟩ : ByteArray), .int .i64 64] rfl (by (try simp only [List.map_toArray, List.map_cons, List.map_nil]); first | done | rfl | (simp only [List.length_drop, List.length_take]; rfl)) ?_; (with_reducible refine (sigv4_only.calls (rdOf ByteArray.empty l0 x8_1) (⟨#[97, 98, 99, 100, 101, 102, 103, 104, 105, 106, 107, 108, 109, 110, 111, 112, 113, 114, 115, 116, 117, 118, 119, 120, 121, 122, 48, 49, 50, 51, 52, 53, 54, 55, 56, 57, 45, 95]⟩ : ByteArray) 64 false _ A5.out).mono ?_); rintro e w13 ⟨rfl, hb⟩; refine ⟨_, rfl, ?_⟩; have n0_ := Aside0.mk (below_step hb0_ hb); clear HB; have HB := n0_; clear n0_; (try clear hb); (try clear hb2); (try clear hk); (try clear hi)))
    go_ret
    exact ⟨by first | rfl | (simp [errW_none, errW_some] <;> rfl) | (simp [*, errW_none, errW_some] <;> rfl), hb0_⟩
   subst c6
   have H1 : ((strings_Compare.f x3_1 (rdOf ByteArray.empty l0 x8_1)).bind fun t110 => (if t110 ≥ 0 then (some false) else (sigv4_names.l0 k1 l0 (rdOf ByteArray.empty l0 x8_1) l0 (l0.length : Int) (wrap64 (x8_1 + 1))))) = some r := by rw [if_pos rfl] at H; exact H
   clear H
   have H := H1
   clear H1
   replace H := Option.bind_eq_some_iff.mp H
   obtain ⟨t110, A70, H⟩ := H
   replace H : (if t110 ≥ 0 then (some false) else (sigv4_names.l0 k1 l0 (rdOf ByteArray.empty l0 x8_1) l0 (l0.length : Int) (wrap64 (x8_1 + 1)))) = some r := H
   have A7 := Aside0.mk A70
   clear A70
   by_cases c8 : t110 ≥ 0
   ·rw [if_pos c8] at H
    have c8b0 : decide (0 ≤ t110) = true := decide_eq_true c8
    clear c8
    obtain rfl := Option.some.inj H
    have p108 : 0 ≤ (x8_1 : Int) := ode_
    have q108 : x8_1 < (l0.length : Int) := ode_
    obtain ⟨ad108, e108, hx108_0⟩ := Kd.at_string HR0.out x8_1 p108 q108
    cases e108
    replace hx108_0 := (HB.out.cell (World.block_lt_of_cell? w _ hx108_0)).trans hx108_0
    replace p108 := eq_true p108
    replace q108 := eq_true q108
    go_wp2_with (first | ((with_reducible refine gate_callee (f := 46) rfl ?_); refine goesL_ (some 13) rfl rfl Tryz.func46 (by kernel_rfl) rfl #[.string (rdOf ByteArray.empty l0 x8_1), .string (⟨#[97, 98, 99, 100, 101, 102, 103, 104, 105, 106, 107, 108, 109, 110, 111, 112, 113, 114, 115, 116, 117, 118, 119, 120, 121, 122, 48, 49, 50, 51, 52, 53, 54, 55, 56, 57, 45, 95]⟩ : ByteArray), .int .i64 64] rfl (by (try simp only [List.map_toArray, List.map_cons, List.map_nil]); first | done | rfl | (simp only [List.length_drop, List.length_take]; rfl)) ?_; (with_reducible refine (sigv4_only.calls (rdOf ByteArray.empty l0 x8_1) (⟨#[97, 98, 99, 100, 101, 102, 103, 104, 105, 106, 107, 108, 109, 110, 111, 112, 113, 114, 115, 116, 117, 118, 119, 120, 121, 122, 48, 49, 50, 51, 52, 53, 54, 55, 56, 57, 45, 95]⟩ : ByteArray) 64 true _ A5.out).mono ?_); rintro e w9 ⟨rfl, hb⟩; refine ⟨_, rfl, ?_⟩; have n0_ := Aside0.mk (below_step hb0_ hb); clear HB; have HB := n0_; clear n0_; (try clear hb); (try clear hb2); (try clear hk); (try clear hi)) | (go_at_call 85; (with_reducible refine (strings_Compare.calls x3_1 (rdOf ByteArray.empty l0 x8_1) t110 _ A7.out).mono ?_); rintro e w10 ⟨rfl, hb⟩; have n0_ := Aside0.mk (below_step hb0_ hb); clear HB; have HB := n0_; clear n0_; (try clear hb); (try clear hb2); (try clear hk); (try clear hi)))
    go_ret
    exact ⟨by first | rfl | (simp [errW_none, errW_some] <;> rfl) | (simp [*, errW_none, errW_some] <;> rfl), hb0_⟩
   rw [if_neg c8] at H
   have c8b0 : decide (0 ≤ t110) = false := decide_eq_false c8
   clear c8
   have H' := Aside0.mk H
   clear H
   have p108 : 0 ≤ (x8_1 : Int) := ode_
   have q108 : x8_1 < (l0.length : Int) := ode_
   obtain ⟨ad108, e108, hx108_0⟩ := Kd.at_string HR0.out x8_1 p108 q108
   cases e108
   replace hx108_0 := (HB.out.cell (World.block_lt_of_cell? w _ hx108_0)).trans hx108_0
   replace p108 := eq_true p108
   replace q108 := eq_true q108
   go_wp2_with (first | ((with_reducible refine gate_callee (f := 46) rfl ?_); refine goesL_ (some 13) rfl rfl Tryz.func46 (by kernel_rfl) rfl #[.string (rdOf ByteArray.empty l0 x8_1), .string (⟨#[97, 98, 99, 100, 101, 102, 103, 104, 105, 106, 107, 108, 109, 110, 111, 112, 113, 114, 115, 116, 117, 118, 119, 120, 121, 122, 48, 49, 50, 51, 52, 53, 54, 55, 56, 57, 45, 95]⟩ : ByteArray), .int .i64 64] rfl (by (try simp only [List.map_toArray, List.map_cons, List.map_nil]); first | done | rfl | (simp only [List.length_drop, List.length_take]; rfl)) ?_; (with_reducible refine (sigv4_only.calls (rdOf ByteArray.empty l0 x8_1) (⟨#[97, 98, 99, 100, 101, 102, 103, 104, 105, 106, 107, 108, 109, 110, 111, 112, 113, 114, 115, 116, 117, 118, 119, 120, 121, 122, 48, 49, 50, 51, 52, 53, 54, 55, 56, 57, 45, 95]⟩ : ByteArray) 64 true _ A5.out).mono ?_); rintro e w11 ⟨rfl, hb⟩; refine ⟨_, rfl, ?_⟩; have n0_ := Aside0.mk (below_step hb0_ hb); clear HB; have HB := n0_; clear n0_; (try clear hb); (try clear hb2); (try clear hk); (try clear hi)) | (go_at_call 85; (with_reducible refine (strings_Compare.calls x3_1 (rdOf ByteArray.empty l0 x8_1) t110 _ A7.out).mono ?_); rintro e w12 ⟨rfl, hb⟩; have n0_ := Aside0.mk (below_step hb0_ hb); clear HB; have HB := n0_; clear n0_; (try clear hb); (try clear hb2); (try clear hk); (try clear hi)))
   go_roundg k1
   case measure => have := HK1.out; omega
   case rel => exact ⟨(rdOf ByteArray.empty l0 x8_1), (wrap64 (x8_1 + 1)), (by first | rfl | (simp; done) | (simp [*]; done)), (by first | rfl | (simp; done) | (simp [*]; done)), H', ⟨by have := HK1.out; omega⟩, ⟨hb0_⟩⟩
end Go.Proofs.YtghcadbmjglidaaGreatDoor.PSg
end
section
namespace Go.Proofs.YtghcadbmjglidaaGreatDoor.PSg
open Go.RowKit Go.Proofs.YtghcadbmjglidaaGreatDoorW.PrintWords Go.Proofs.YtghcadbmjglidaaGreatDoorW.PrintLast Go.Proofs.YtghcadbmjglidaaGreatDoorW.PrintMore
attribute [local go_sem] max2_int min2_int max_two min_two max_three min_three max_four min_four
set_option linter.unusedVariables false
set_option linter.unusedSimpArgs false
def sigv4_right.f (k : Nat) (a0_0 : ByteArray) (a0_1 : ByteArray) (l0_2 : List ByteArray) (a0_3 : ByteArray) : Option (Bool) := (strings_ToUpper.f (⟨#[97, 98, 99, 100, 101, 102, 103, 104, 105, 106, 107, 108, 109, 110, 111, 112, 113, 114, 115, 116, 117, 118, 119, 120, 121, 122]⟩ : ByteArray)).bind fun t112 => (if 26 + t112.size ≤ 9223372036854775807 then (if ((⟨#[97, 98, 99, 100, 101, 102, 103, 104, 105, 106, 107, 108, 109, 110, 111, 112, 113, 114, 115, 116, 117, 118, 119, 120, 121, 122]⟩ : ByteArray) ++ t112).size + 10 ≤ 9223372036854775807 then ((sigv4_only.f a0_0 (((⟨#[97, 98, 99, 100, 101, 102, 103, 104, 105, 106, 107, 108, 109, 110, 111, 112, 113, 114, 115, 116, 117, 118, 119, 120, 121, 122]⟩ : ByteArray) ++ t112) ++ (⟨#[48, 49, 50, 51, 52, 53, 54, 55, 56, 57]⟩ : ByteArray)) 16).bind fun t113 => (if t113 = true then ((sigv4_only.f a0_1 (⟨#[48, 49, 50, 51, 52, 53, 54, 55, 56, 57]⟩ : ByteArray) 8).bind fun t114 => (if t114 = true then (if (a0_1.size : Int) = 8 then ((sigv4_names.f k l0_2).bind fun t115 => (if t115 = true then ((sigv4_only.f a0_3 (⟨#[48, 49, 50, 51, 52, 53, 54, 55, 56, 57, 97, 98, 99, 100, 101, 102]⟩ : ByteArray) 64).bind fun t116 => (if t116 = true then (some ((a0_3.size : Int) == 64)) else (some false))) else (some false))) else (some false)) else (some false))) else (some false))) else (none)) else (none))
def sigv4_right.T1 : Bool × List (List Nat × List Nat) := (true, [([], []), ([0], [0]), ([], []), ([2], [2]), ([3], [3]), ([1, 4, 2], [1, 4]), ([5, 5], [5]), ([6], [6]), ([7, 6], [6, 7]), ([8, 6, 6], [6, 8]), ([6, 9], [6, 9]), ([10, 9], [10]), ([11], [11]), ([12, 11], [11, 12]), ([13, 11], [11, 13]), ([14, 11], [11, 14]), ([11, 15], [11, 15]), ([16, 11], [16]), ([17], [17]), ([18, 17], [17, 18]), ([19, 17, 17], [17, 19]), ([17, 20], [17, 20]), ([21, 20], [21]), ([22], [22]), ([23, 22], [22, 23]), ([24, 22, 22], [22, 24]), ([22, 25], [22, 25]), ([26, 25], [26]), ([27], [27]), ([28, 27], [27, 28]), ([29, 27], [27, 29]), ([30, 27], [27, 30]), ([27, 31], [27, 31]), ([32, 27, 0, 1, 2, 3, 4, 5, 6, 7, 8, 9, 10, 11, 12, 13, 14, 15, 16, 17, 18, 19, 20, 21, 22, 23, 24, 25, 26, 27, 28, 29, 30, 31, 32], [32])])
def sigv4_right.B1 : List Nat := [0, 1, 0, 4, 12, 31, 63, 127, 255, 511, 1023, 2047, 4095, 8191, 16383, 32767, 65535, 131071, 262143, 524287, 1048575, 2097151, 4194303, 8388607, 16777215, 33554431, 67108863, 134217727, 268435455, 536870911, 1073741823, 2147483647, 4294967295, 8589934591]
theorem sigv4_right.tab1 : rtab .any (opsOf Tryz.f22 1) = sigv4_right.T1 := by kernel_rfl
theorem sigv4_right.bits1 : waitsOk sigv4_right.T1.2 sigv4_right.B1 = true := by kernel_rfl
set_option maxHeartbeats 8000000 in
set_option maxRecDepth 100000 in
theorem sigv4_right.calls (k : Nat) (a0_0 : ByteArray) (a0_1 : ByteArray) (A0_2 : Option Addr) (c0_2 : Nat) (l0_2 : List ByteArray) (a0_3 : ByteArray) (r : Bool) (w : World) (hr0_2 : Kd.C Kd.string w A0_2 l0_2.length l0_2) (hc0_2 : l0_2.length ≤ c0_2) (h : sigv4_right.f k a0_0 a0_1 l0_2 a0_3 = some r) :
  Calls Tryz.prog 22 #[.agg #[.string a0_0, .string a0_1, .slice A0_2 l0_2.length c0_2, .string a0_3]] w fun e w' => e = .returned (.bool r) ∧ Below w.heap.size w w' := by
 have hu26 := Tryz.underlying26
 have HR0_2 := Aside0.mk hr0_2
 have HC0_2 := Aside0.mk hc0_2
 clear hr0_2 hc0_2
 have HB := Aside0.mk (Below.refl w.heap.size w)
 have H : ((strings_ToUpper.f (⟨#[97, 98, 99, 100, 101, 102, 103, 104, 105, 106, 107, 108, 109, 110, 111, 112, 113, 114, 115, 116, 117, 118, 119, 120, 121, 122]⟩ : ByteArray)).bind fun t112 => (if 26 + t112.size ≤ 9223372036854775807 then (if ((⟨#[97, 98, 99, 100, 101, 102, 103, 104, 105, 106, 107, 108, 109, 110, 111, 112, 113, 114, 115, 116, 117, 118, 119, 120, 121, 122]⟩ : ByteArray) ++ t112).size + 10 ≤ 9223372036854775807 then ((sigv4_only.f a0_0 (((⟨#[97, 98, 99, 100, 101, 102, 103, 104, 105, 106, 107, 108, 109, 110, 111, 112, 113, 114, 115, 116, 117, 118, 119, 120, 121, 122]⟩ : ByteArray) ++ t112) ++ (⟨#[48, 49, 50, 51, 52, 53, 54, 55, 56, 57]⟩ : ByteArray)) 16).bind fun t113 => (if t113 = true then ((sigv4_only.f a0_1 (⟨#[48, 49, 50, 51, 52, 53, 54, 55, 56, 57]⟩ : ByteArray) 8).bind fun t114 => (if t114 = true then (if (a0_1.size : Int) = 8 then ((sigv4_names.f k l0_2).bind fun t115 => (if t115 = true then ((sigv4_only.f a0_3 (⟨#[48, 49, 50, 51, 52, 53, 54, 55, 56, 57, 97, 98, 99, 100, 101, 102]⟩ : ByteArray) 64).bind fun t116 => (if t116 = true then (some ((a0_3.size : Int) == 64)) else (some false))) else (some false))) else (some false)) else (some false))) else (some false))) else (none)) else (none))) = some r := h
 clear h
 replace H := Option.bind_eq_some_iff.mp H
 obtain ⟨t112, A20, H⟩ := H
 replace H : (if 26 + t112.size ≤ 9223372036854775807 then (if ((⟨#[97, 98, 99, 100, 101, 102, 103, 104, 105, 106, 107, 108, 109, 110, 111, 112, 113, 114, 115, 116, 117, 118, 119, 120, 121, 122]⟩ : ByteArray) ++ t112).size + 10 ≤ 9223372036854775807 then ((sigv4_only.f a0_0 (((⟨#[97, 98, 99, 100, 101, 102, 103, 104, 105, 106, 107, 108, 109, 110, 111, 112, 113, 114, 115, 116, 117, 118, 119, 120, 121, 122]⟩ : ByteArray) ++ t112) ++ (⟨#[48, 49, 50, 51, 52, 53, 54, 55, 56, 57]⟩ : ByteArray)) 16).bind fun t113 => (if t113 = true then ((sigv4_only.f a0_1 (⟨#[48, 49, 50, 51, 52, 53, 54, 55, 56, 57]⟩ : ByteArray) 8).bind fun t114 => (if t114 = true then (if (a0_1.size : Int) = 8 then ((sigv4_names.f k l0_2).bind fun t115 => (if t115 = true then ((sigv4_only.f a0_3 (⟨#[48, 49, 50, 51, 52, 53, 54, 55, 56, 57, 97, 98, 99, 100, 101, 102]⟩ : ByteArray) 64).bind fun t116 => (if t116 = true then (some ((a0_3.size : Int) == 64)) else (some false))) else (some false))) else (some false)) else (some false))) else (some false))) else (none)) else (none)) = some r := H
 have A2 := Aside0.mk A20
 clear A20
 by_cases c3 : 26 + t112.size ≤ 9223372036854775807
 rotate_left
 ·rw [if_neg c3] at H
  exact absurd H (by simp)
 rw [if_pos c3] at H
 have c3b0 := eq_true c3
 have c3b1 : decide (26 + t112.size ≤ 9223372036854775807) = true := decide_eq_true c3
 try have c3b2 : (9223372036854775807 < 26 + t112.size) = False := eq_false (Nat.not_lt.2 c3)
 by_cases c4 : ((⟨#[97, 98, 99, 100, 101, 102, 103, 104, 105, 106, 107, 108, 109, 110, 111, 112, 113, 114, 115, 116, 117, 118, 119, 120, 121, 122]⟩ : ByteArray) ++ t112).size + 10 ≤ 9223372036854775807
 rotate_left
 ·rw [if_neg c4] at H
  exact absurd H (by simp)
 rw [if_pos c4] at H
 have c4b0 := eq_true c4
 have c4b1 : decide (((⟨#[97, 98, 99, 100, 101, 102, 103, 104, 105, 106, 107, 108, 109, 110, 111, 112, 113, 114, 115, 116, 117, 118, 119, 120, 121, 122]⟩ : ByteArray) ++ t112).size + 10 ≤ 9223372036854775807) = true := decide_eq_true c4
 try have c4b2 : (9223372036854775807 < ((⟨#[97, 98, 99, 100, 101, 102, 103, 104, 105, 106, 107, 108, 109, 110, 111, 112, 113, 114, 115, 116, 117, 118, 119, 120, 121, 122]⟩ : ByteArray) ++ t112).size + 10) = False := eq_false (Nat.not_lt.2 c4)
 have c4b3 : (9223372036854775807 < 26 + t112.size + 10) = False := eq_false (Nat.not_lt.2 (by have h_ := c4; simp only [ByteArray.size_append] at h_; exact h_))
 replace H := Option.bind_eq_some_iff.mp H
 obtain ⟨t113, A50, H⟩ := H
 replace H : (if t113 = true then ((sigv4_only.f a0_1 (⟨#[48, 49, 50, 51, 52, 53, 54, 55, 56, 57]⟩ : ByteArray) 8).bind fun t114 => (if t114 = true then (if (a0_1.size : Int) = 8 then ((sigv4_names.f k l0_2).bind fun t115 => (if t115 = true then ((sigv4_only.f a0_3 (⟨#[48, 49, 50, 51, 52, 53, 54, 55, 56, 57, 97, 98, 99, 100, 101, 102]⟩ : ByteArray) 64).bind fun t116 => (if t116 = true then (some ((a0_3.size : Int) == 64)) else (some false))) else (some false))) else (some false)) else (some false))) else (some false)) = some r := H
 have A5 := Aside0.mk A50
 clear A50
 by_cases c6 : t113 = true
 rotate_left
 ·replace c6 := Bool.eq_false_iff.mpr c6
  subst c6
  have H1 : (some false) = some r := by rw [if_neg (show ¬ (false = true) by decide)] at H; exact H
  clear H
  have H := H1
  clear H1
  obtain rfl := Option.some.inj H
  go_enter Tryz.func22, Tryz.ntmps22
  try go_wp2_with (first | ((with_reducible refine gate_dst (N := 1) rfl ?_); (try (refine gate_guard (by rfl) ?_; dsimp only)); refine box_event ?hg (N := 1) ?hd (cs := #[.string a0_0, .string a0_1, .slice A0_2 l0_2.length c0_2, .string a0_3]) (t := 26) ?hr ?_; (case hd => rfl); (case hg => rfl); (case hr => first | (go_simp; done) | (go_simp; rfl)); intro gb111 hg w44 hbox hb; have n0_ := Aside0.mk (below_step hb0_ hb); have n1_ := Aside0.mk (hbox); have n2_ := Aside0.mk ((by rw [hg]; exact (below_size hb0_) : w.heap.size ≤ gb111)); have n3_ := Aside0.mk ((by rw [hg]; exact (below_size hb0_) : w.heap.size ≤ gb111)); clear HB; have HB := n0_; have BK111 := n1_; have GW111 := n2_; have GE111 := n3_; clear n0_ n1_ n2_ n3_; clear hb hbox hg))
  have n0_ := Aside0.mk (blk_drew BK111.out)
  have n1_ := Aside0.mk (below_drew1 HB.out)
  clear BK111
  clear HB
  have BK111 := n0_
  have HB := n1_
  clear n0_ n1_
  refine start_ (n := 34) (S := fun w' => w'.cell? ⟨gb111, 0, none⟩ = some (.string a0_0) ∧ w'.cell? ⟨gb111, 1, none⟩ = some (.string a0_1) ∧ w'.cell? ⟨gb111, 2, none⟩ = some (.slice A0_2 l0_2.length c0_2) ∧ w'.cell? ⟨gb111, 3, none⟩ = some (.string a0_3)) (ds := []) (fl_ 0 34) (by kernel_rfl) rfl rfl ⟨(blk_cell BK111.out 0).trans rfl, (blk_cell BK111.out 1).trans rfl, (blk_cell BK111.out 2).trans rfl, (blk_cell BK111.out 3).trans rfl⟩ (fun hHeld => ?_); refine with_tabW sigv4_right.tab1 sigv4_right.bits1 (fun HT_ HW_ => ?_)
  generalize w44.drew = w45 at BK111 HB hHeld ⊢
  refine puw_ 0 3 1 34 HT_.out (h := ?_)
  refine take_ (i := 1) (N := some 4) (v := ?_) (a' := ?_) (fl_ 2 34) rfl rfl (take_ofW HT_.out HW_.out (by kernel_rfl)) (fun _ _ _ h => h) (Or.inl ⟨by rfl, ?_⟩) hHeld ?_ ?_
  rotate_left
  ·rintro w' ⟨s0, s1, s2, s3⟩
   go_simp
   with_reducible rfl
  rotate_left
  ·simp only [Act.put, spx_]
   rfl
  refine one_ (i := 2) (N := some 5) (fl_ 3 34) rfl rfl (one_of HT_.out (by kernel_rfl)) (by decide) (fun K hK => ?_)
  refine goes_ Tryz.func47 (by kernel_rfl) rfl #[.string (⟨#[97, 98, 99, 100, 101, 102, 103, 104, 105, 106, 107, 108, 109, 110, 111, 112, 113, 114, 115, 116, 117, 118, 119, 120, 121, 122]⟩ : ByteArray)] (by rfl) rfl rfl (by (try simp only [List.map_toArray, List.map_cons, List.map_nil]); first | done | rfl | (simp only [List.length_drop, List.length_take]; rfl)) ?_
  with_reducible refine (strings_ToUpper.calls (⟨#[97, 98, 99, 100, 101, 102, 103, 104, 105, 106, 107, 108, 109, 110, 111, 112, 113, 114, 115, 116, 117, 118, 119, 120, 121, 122]⟩ : ByteArray) t112 _ A2.out).mono ?_
  rintro e w46 ⟨rfl, hb⟩
  refine ⟨_, rfl, ?_⟩
  have n0_ := Aside0.mk (blk_below (g := gb111) (o := .cells #[.string a0_0, .string a0_1, .slice A0_2 l0_2.length c0_2, .string a0_3] 26 (0, 0)) (by (with_reducible repeat (first | refine blk_drewN ?_ _ | refine blk_drew ?_ | refine blk_alloc ?_ _)); exact BK111.out) hb)
  have n1_ := Aside0.mk (below_step hb2_ hb)
  clear BK111
  clear HB
  have BK111 := n0_
  have HB := n1_
  clear n0_ n1_
  (try clear hb)
  (try clear hb2)
  (try clear hk)
  (try clear hi)
  refine hK.out _ _ ⟨(blk_cell BK111.out 0).trans rfl, (blk_cell BK111.out 1).trans rfl, (blk_cell BK111.out 2).trans rfl, (blk_cell BK111.out 3).trans rfl⟩ (fun hHeld => ?_)
  clear hK K
  refine norm_ (a' := ?_) ?_ ?_
  rotate_left
  ·show Act.put _ (some 5) _ = _
   simp only [Act.put, spx_]
   rfl
  refine puw_ 3 6 4 34 HT_.out (h := ?_)
  refine puw_ 4 7 5 34 HT_.out (h := ?_)
  refine one_ (i := 5) (N := some 8) (fl_ 6 34) rfl rfl (one_of HT_.out (by kernel_rfl)) (by decide) (fun K hK => ?_)
  refine goes_ Tryz.func46 (by kernel_rfl) rfl #[.string a0_0, .string (((⟨#[97, 98, 99, 100, 101, 102, 103, 104, 105, 106, 107, 108, 109, 110, 111, 112, 113, 114, 115, 116, 117, 118, 119, 120, 121, 122]⟩ : ByteArray) ++ t112) ++ (⟨#[48, 49, 50, 51, 52, 53, 54, 55, 56, 57]⟩ : ByteArray)), .int .i64 16] (by rfl) rfl rfl (by (try simp only [List.map_toArray, List.map_cons, List.map_nil]); first | done | rfl | (simp only [List.length_drop, List.length_take]; rfl)) ?_
  with_reducible refine (sigv4_only.calls a0_0 (((⟨#[97, 98, 99, 100, 101, 102, 103, 104, 105, 106, 107, 108, 109, 110, 111, 112, 113, 114, 115, 116, 117, 118, 119, 120, 121, 122]⟩ : ByteArray) ++ t112) ++ (⟨#[48, 49, 50, 51, 52, 53, 54, 55, 56, 57]⟩ : ByteArray)) 16 false _ A5.out).mono ?_
  rintro e w47 ⟨rfl, hb⟩
  refine ⟨_, rfl, ?_⟩
  have n0_ := Aside0.mk (blk_below (g := gb111) (o := .cells #[.string a0_0, .string a0_1, .slice A0_2 l0_2.length c0_2, .string a0_3] 26 (0, 0)) (by (with_reducible repeat (first | refine blk_drewN ?_ _ | refine blk_drew ?_ | refine blk_alloc ?_ _)); exact BK111.out) hb)
  have n1_ := Aside0.mk (below_step hb2_ hb)
  clear BK111
  clear HB
  have BK111 := n0_
  have HB := n1_
  clear n0_ n1_
  (try clear hb)
  (try clear hb2)
  (try clear hk)
  (try clear hi)
  refine hK.out _ _ ⟨(blk_cell BK111.out 0).trans rfl, (blk_cell BK111.out 1).trans rfl, (blk_cell BK111.out 2).trans rfl, (blk_cell BK111.out 3).trans rfl⟩ (fun hHeld => ?_)
  clear hK K
  refine norm_ (a' := ?_) ?_ ?_
  rotate_left
  ·show Act.put _ (some 8) _ = _
   simp only [Act.put, spx_]
   rfl
  refine puw_ 6 9 7 34 HT_.out (h := ?_)
  refine pun_ 7 10 8 34 HT_.out (h := ?_)
  refine pun_ 8 11 9 34 HT_.out (h := ?_)
  refine pun_ 9 12 10 34 HT_.out (h := ?_)
  refine puw_ 10 13 11 34 HT_.out (h := ?_)
  refine puw_ 11 14 12 34 HT_.out (h := ?_)
  refine pun_ 12 15 13 34 HT_.out (h := ?_)
  refine pun_ 13 16 14 34 HT_.out (h := ?_)
  refine pun_ 14 17 15 34 HT_.out (h := ?_)
  refine pun_ 15 18 16 34 HT_.out (h := ?_)
  refine puw_ 16 19 17 34 HT_.out (h := ?_)
  refine puw_ 17 20 18 34 HT_.out (h := ?_)
  refine pun_ 18 21 19 34 HT_.out (h := ?_)
  refine pun_ 19 22 20 34 HT_.out (h := ?_)
  refine pun_ 20 23 21 34 HT_.out (h := ?_)
  refine puw_ 21 24 22 34 HT_.out (h := ?_)
  refine puw_ 22 25 23 34 HT_.out (h := ?_)
  refine pun_ 23 26 24 34 HT_.out (h := ?_)
  refine pun_ 24 27 25 34 HT_.out (h := ?_)
  refine pun_ 25 28 26 34 HT_.out (h := ?_)
  refine puw_ 26 29 27 34 HT_.out (h := ?_)
  refine puw_ 27 30 28 34 HT_.out (h := ?_)
  refine pun_ 28 31 29 34 HT_.out (h := ?_)
  refine pun_ 29 32 30 34 HT_.out (h := ?_)
  refine pun_ 30 33 31 34 HT_.out (h := ?_)
  refine pun_ 31 34 32 34 HT_.out (h := ?_)
  refine puw_ 32 35 33 34 HT_.out (h := ?_)
  refine puw_ 33 2 34 34 HT_.out (h := ?_)
  refine done_ (done_of HT_.out (by kernel_rfl)) ?_
  try go_wp2
  go_ret
  exact ⟨by first | rfl | (simp [errW_none, errW_some] <;> rfl) | (simp [*, errW_none, errW_some] <;> rfl), hb2_⟩
 subst c6
 have H1 : ((sigv4_only.f a0_1 (⟨#[48, 49, 50, 51, 52, 53, 54, 55, 56, 57]⟩ : ByteArray) 8).bind fun t114 => (if t114 = true then (if (a0_1.size : Int) = 8 then ((sigv4_names.f k l0_2).bind fun t115 => (if t115 = true then ((sigv4_only.f a0_3 (⟨#[48, 49, 50, 51, 52, 53, 54, 55, 56, 57, 97, 98, 99, 100, 101, 102]⟩ : ByteArray) 64).bind fun t116 => (if t116 = true then (some ((a0_3.size : Int) == 64)) else (some false))) else (some false))) else (some false)) else (some false))) = some r := by rw [if_pos rfl] at H; exact H
 clear H
 have H := H1
 clear H1
 replace H := Option.bind_eq_some_iff.mp H
 obtain ⟨t114, A70, H⟩ := H
 replace H : (if t114 = true then (if (a0_1.size : Int) = 8 then ((sigv4_names.f k l0_2).bind fun t115 => (if t115 = true then ((sigv4_only.f a0_3 (⟨#[48, 49, 50, 51, 52, 53, 54, 55, 56, 57, 97, 98, 99, 100, 101, 102]⟩ : ByteArray) 64).bind fun t116 => (if t116 = true then (some ((a0_3.size : Int) == 64)) else (some false))) else (some false))) else (some false)) else (some false)) = some r := H
 have A7 := Aside0.mk A70
 clear A70
 by_cases c8 : t114 = true
 rotate_left
 ·replace c8 := Bool.eq_false_iff.mpr c8
  subst c8
  have H1 : (some false) = some r := by rw [if_neg (show ¬ (false = true) by decide)] at H; exact H
  clear H
  have H := H1
  clear H1
  obtain rfl := Option.some.inj H
  go_enter Tryz.func22, Tryz.ntmps22
  try go_wp2_with (first | ((with_reducible refine gate_dst (N := 1) rfl ?_); (try (refine gate_guard (by rfl) ?_; dsimp only)); refine box_event ?hg (N := 1) ?hd (cs := #[.string a0_0, .string a0_1, .slice A0_2 l0_2.length c0_2, .string a0_3]) (t := 26) ?hr ?_; (case hd => rfl); (case hg => rfl); (case hr => first | (go_simp; done) | (go_simp; rfl)); intro gb111 hg w39 hbox hb; have n0_ := Aside0.mk (below_step hb0_ hb); have n1_ := Aside0.mk (hbox); have n2_ := Aside0.mk ((by rw [hg]; exact (below_size hb0_) : w.heap.size ≤ gb111)); have n3_ := Aside0.mk ((by rw [hg]; exact (below_size hb0_) : w.heap.size ≤ gb111)); clear HB; have HB := n0_; have BK111 := n1_; have GW111 := n2_; have GE111 := n3_; clear n0_ n1_ n2_ n3_; clear hb hbox hg))
  have n0_ := Aside0.mk (blk_drew BK111.out)
  have n1_ := Aside0.mk (below_drew1 HB.out)
  clear BK111
  clear HB
  have BK111 := n0_
  have HB := n1_
  clear n0_ n1_
  refine start_ (n := 34) (S := fun w' => w'.cell? ⟨gb111, 0, none⟩ = some (.string a0_0) ∧ w'.cell? ⟨gb111, 1, none⟩ = some (.string a0_1) ∧ w'.cell? ⟨gb111, 2, none⟩ = some (.slice A0_2 l0_2.length c0_2) ∧ w'.cell? ⟨gb111, 3, none⟩ = some (.string a0_3)) (ds := []) (fl_ 0 34) (by kernel_rfl) rfl rfl ⟨(blk_cell BK111.out 0).trans rfl, (blk_cell BK111.out 1).trans rfl, (blk_cell BK111.out 2).trans rfl, (blk_cell BK111.out 3).trans rfl⟩ (fun hHeld => ?_); refine with_tabW sigv4_right.tab1 sigv4_right.bits1 (fun HT_ HW_ => ?_)
  generalize w39.drew = w40 at BK111 HB hHeld ⊢
  refine puw_ 0 3 1 34 HT_.out (h := ?_)
  refine take_ (i := 1) (N := some 4) (v := ?_) (a' := ?_) (fl_ 2 34) rfl rfl (take_ofW HT_.out HW_.out (by kernel_rfl)) (fun _ _ _ h => h) (Or.inl ⟨by rfl, ?_⟩) hHeld ?_ ?_
  rotate_left
  ·rintro w' ⟨s0, s1, s2, s3⟩
   go_simp
   with_reducible rfl
  rotate_left
  ·simp only [Act.put, spx_]
   rfl
  refine one_ (i := 2) (N := some 5) (fl_ 3 34) rfl rfl (one_of HT_.out (by kernel_rfl)) (by decide) (fun K hK => ?_)
  refine goes_ Tryz.func47 (by kernel_rfl) rfl #[.string (⟨#[97, 98, 99, 100, 101, 102, 103, 104, 105, 106, 107, 108, 109, 110, 111, 112, 113, 114, 115, 116, 117, 118, 119, 120, 121, 122]⟩ : ByteArray)] (by rfl) rfl rfl (by (try simp only [List.map_toArray, List.map_cons, List.map_nil]); first | done | rfl | (simp only [List.length_drop, List.length_take]; rfl)) ?_
  with_reducible refine (strings_ToUpper.calls (⟨#[97, 98, 99, 100, 101, 102, 103, 104, 105, 106, 107, 108, 109, 110, 111, 112, 113, 114, 115, 116, 117, 118, 119, 120, 121, 122]⟩ : ByteArray) t112 _ A2.out).mono ?_
  rintro e w41 ⟨rfl, hb⟩
  refine ⟨_, rfl, ?_⟩
  have n0_ := Aside0.mk (blk_below (g := gb111) (o := .cells #[.string a0_0, .string a0_1, .slice A0_2 l0_2.length c0_2, .string a0_3] 26 (0, 0)) (by (with_reducible repeat (first | refine blk_drewN ?_ _ | refine blk_drew ?_ | refine blk_alloc ?_ _)); exact BK111.out) hb)
  have n1_ := Aside0.mk (below_step hb2_ hb)
  clear BK111
  clear HB
  have BK111 := n0_
  have HB := n1_
  clear n0_ n1_
  (try clear hb)
  (try clear hb2)
  (try clear hk)
  (try clear hi)
  refine hK.out _ _ ⟨(blk_cell BK111.out 0).trans rfl, (blk_cell BK111.out 1).trans rfl, (blk_cell BK111.out 2).trans rfl, (blk_cell BK111.out 3).trans rfl⟩ (fun hHeld => ?_)
  clear hK K
  refine norm_ (a' := ?_) ?_ ?_
  rotate_left
  ·show Act.put _ (some 5) _ = _
   simp only [Act.put, spx_]
   rfl
  refine puw_ 3 6 4 34 HT_.out (h := ?_)
  refine puw_ 4 7 5 34 HT_.out (h := ?_)
  refine one_ (i := 5) (N := some 8) (fl_ 6 34) rfl rfl (one_of HT_.out (by kernel_rfl)) (by decide) (fun K hK => ?_)
  refine goes_ Tryz.func46 (by kernel_rfl) rfl #[.string a0_0, .string (((⟨#[97, 98, 99, 100, 101, 102, 103, 104, 105, 106, 107, 108, 109, 110, 111, 112, 113, 114, 115, 116, 117, 118, 119, 120, 121, 122]⟩ : ByteArray) ++ t112) ++ (⟨#[48, 49, 50, 51, 52, 53, 54, 55, 56, 57]⟩ : ByteArray)), .int .i64 16] (by rfl) rfl rfl (by (try simp only [List.map_toArray, List.map_cons, List.map_nil]); first | done | rfl | (simp only [List.length_drop, List.length_take]; rfl)) ?_
  with_reducible refine (sigv4_only.calls a0_0 (((⟨#[97, 98, 99, 100, 101, 102, 103, 104, 105, 106, 107, 108, 109, 110, 111, 112, 113, 114, 115, 116, 117, 118, 119, 120, 121, 122]⟩ : ByteArray) ++ t112) ++ (⟨#[48, 49, 50, 51, 52, 53, 54, 55, 56, 57]⟩ : ByteArray)) 16 true _ A5.out).mono ?_
  rintro e w42 ⟨rfl, hb⟩
  refine ⟨_, rfl, ?_⟩
  have n0_ := Aside0.mk (blk_below (g := gb111) (o := .cells #[.string a0_0, .string a0_1, .slice A0_2 l0_2.length c0_2, .string a0_3] 26 (0, 0)) (by (with_reducible repeat (first | refine blk_drewN ?_ _ | refine blk_drew ?_ | refine blk_alloc ?_ _)); exact BK111.out) hb)
  have n1_ := Aside0.mk (below_step hb2_ hb)
  clear BK111
  clear HB
  have BK111 := n0_
  have HB := n1_
  clear n0_ n1_
  (try clear hb)
  (try clear hb2)
  (try clear hk)
  (try clear hi)
  refine hK.out _ _ ⟨(blk_cell BK111.out 0).trans rfl, (blk_cell BK111.out 1).trans rfl, (blk_cell BK111.out 2).trans rfl, (blk_cell BK111.out 3).trans rfl⟩ (fun hHeld => ?_)
  clear hK K
  refine norm_ (a' := ?_) ?_ ?_
  rotate_left
  ·show Act.put _ (some 8) _ = _
   simp only [Act.put, spx_]
   rfl
  refine puw_ 6 9 7 34 HT_.out (h := ?_)
  refine puw_ 7 10 8 34 HT_.out (h := ?_)
  refine take_ (i := 8) (N := some 11) (v := ?_) (a' := ?_) (fl_ 9 34) rfl rfl (take_ofW HT_.out HW_.out (by kernel_rfl)) (fun _ _ _ h => h) (Or.inl ⟨by rfl, ?_⟩) hHeld ?_ ?_
  rotate_left
  ·rintro w' ⟨s0, s1, s2, s3⟩
   go_simp
   with_reducible rfl
  rotate_left
  ·simp only [Act.put, spx_]
   rfl
  refine one_ (i := 9) (N := some 12) (fl_ 10 34) rfl rfl (one_of HT_.out (by kernel_rfl)) (by decide) (fun K hK => ?_)
  refine goes_ Tryz.func46 (by kernel_rfl) rfl #[.string a0_1, .string (⟨#[48, 49, 50, 51, 52, 53, 54, 55, 56, 57]⟩ : ByteArray), .int .i64 8] (by rfl) rfl rfl (by (try simp only [List.map_toArray, List.map_cons, List.map_nil]); first | done | rfl | (simp only [List.length_drop, List.length_take]; rfl)) ?_
  with_reducible refine (sigv4_only.calls a0_1 (⟨#[48, 49, 50, 51, 52, 53, 54, 55, 56, 57]⟩ : ByteArray) 8 false _ A7.out).mono ?_
  rintro e w43 ⟨rfl, hb⟩
  refine ⟨_, rfl, ?_⟩
  have n0_ := Aside0.mk (blk_below (g := gb111) (o := .cells #[.string a0_0, .string a0_1, .slice A0_2 l0_2.length c0_2, .string a0_3] 26 (0, 0)) (by (with_reducible repeat (first | refine blk_drewN ?_ _ | refine blk_drew ?_ | refine blk_alloc ?_ _)); exact BK111.out) hb)
  have n1_ := Aside0.mk (below_step hb2_ hb)
  clear BK111
  clear HB
  have BK111 := n0_
  have HB := n1_
  clear n0_ n1_
  (try clear hb)
  (try clear hb2)
  (try clear hk)
  (try clear hi)
  refine hK.out _ _ ⟨(blk_cell BK111.out 0).trans rfl, (blk_cell BK111.out 1).trans rfl, (blk_cell BK111.out 2).trans rfl, (blk_cell BK111.out 3).trans rfl⟩ (fun hHeld => ?_)
  clear hK K
  refine norm_ (a' := ?_) ?_ ?_
  rotate_left
  ·show Act.put _ (some 12) _ = _
   simp only [Act.put, spx_]
   rfl
  refine puw_ 10 13 11 34 HT_.out (h := ?_)
  refine puw_ 11 14 12 34 HT_.out (h := ?_)
  refine pun_ 12 15 13 34 HT_.out (h := ?_)
  refine pun_ 13 16 14 34 HT_.out (h := ?_)
  refine pun_ 14 17 15 34 HT_.out (h := ?_)
  refine pun_ 15 18 16 34 HT_.out (h := ?_)
  refine puw_ 16 19 17 34 HT_.out (h := ?_)
  refine puw_ 17 20 18 34 HT_.out (h := ?_)
  refine pun_ 18 21 19 34 HT_.out (h := ?_)
  refine pun_ 19 22 20 34 HT_.out (h := ?_)
  refine pun_ 20 23 21 34 HT_.out (h := ?_)
  refine puw_ 21 24 22 34 HT_.out (h := ?_)
  refine puw_ 22 25 23 34 HT_.out (h := ?_)
  refine pun_ 23 26 24 34 HT_.out (h := ?_)
  refine pun_ 24 27 25 34 HT_.out (h := ?_)
  refine pun_ 25 28 26 34 HT_.out (h := ?_)
  refine puw_ 26 29 27 34 HT_.out (h := ?_)
  refine puw_ 27 30 28 34 HT_.out (h := ?_)
  refine pun_ 28 31 29 34 HT_.out (h := ?_)
  refine pun_ 29 32 30 34 HT_.out (h := ?_)
  refine pun_ 30 33 31 34 HT_.out (h := ?_)
  refine pun_ 31 34 32 34 HT_.out (h := ?_)
  refine puw_ 32 35 33 34 HT_.out (h := ?_)
  refine puw_ 33 2 34 34 HT_.out (h := ?_)
  refine done_ (done_of HT_.out (by kernel_rfl)) ?_
  try go_wp2
  go_ret
  exact ⟨by first | rfl | (simp [errW_none, errW_some] <;> rfl) | (simp [*, errW_none, errW_some] <;> rfl), hb2_⟩
 subst c8
 have H1 : (if (a0_1.size : Int) = 8 then ((sigv4_names.f k l0_2).bind fun t115 => (if t115 = true then ((sigv4_only.f a0_3 (⟨#[48, 49, 50, 51, 52, 53, 54, 55, 56, 57, 97, 98, 99, 100, 101, 102]⟩ : ByteArray) 64).bind fun t116 => (if t116 = true then (some ((a0_3.size : Int) == 64)) else (some false))) else (some false))) else (some false)) = some r := by rw [if_pos rfl] at H; exact H
 clear H
 have H := H1
 clear H1
 by_cases c9 : (a0_1.size : Int) = 8
 rotate_left
 ·rw [if_neg c9] at H
  have c9b0 : ((a0_1.size : Int) == 8) = false := beq_eq_false_iff_ne.mpr c9
  have c9b1 : ((a0_1.size : Int) != 8) = true := bne_iff_ne.mpr c9
  obtain rfl := Option.some.inj H
  go_enter Tryz.func22, Tryz.ntmps22
  try go_wp2_with (first | ((with_reducible refine gate_dst (N := 1) rfl ?_); (try (refine gate_guard (by rfl) ?_; dsimp only)); refine box_event ?hg (N := 1) ?hd (cs := #[.string a0_0, .string a0_1, .slice A0_2 l0_2.length c0_2, .string a0_3]) (t := 26) ?hr ?_; (case hd => rfl); (case hg => rfl); (case hr => first | (go_simp; done) | (go_simp; rfl)); intro gb111 hg w34 hbox hb; have n0_ := Aside0.mk (below_step hb0_ hb); have n1_ := Aside0.mk (hbox); have n2_ := Aside0.mk ((by rw [hg]; exact (below_size hb0_) : w.heap.size ≤ gb111)); have n3_ := Aside0.mk ((by rw [hg]; exact (below_size hb0_) : w.heap.size ≤ gb111)); clear HB; have HB := n0_; have BK111 := n1_; have GW111 := n2_; have GE111 := n3_; clear n0_ n1_ n2_ n3_; clear hb hbox hg))
  have n0_ := Aside0.mk (blk_drew BK111.out)
  have n1_ := Aside0.mk (below_drew1 HB.out)
  clear BK111
  clear HB
  have BK111 := n0_
  have HB := n1_
  clear n0_ n1_
  refine start_ (n := 34) (S := fun w' => w'.cell? ⟨gb111, 0, none⟩ = some (.string a0_0) ∧ w'.cell? ⟨gb111, 1, none⟩ = some (.string a0_1) ∧ w'.cell? ⟨gb111, 2, none⟩ = some (.slice A0_2 l0_2.length c0_2) ∧ w'.cell? ⟨gb111, 3, none⟩ = some (.string a0_3)) (ds := []) (fl_ 0 34) (by kernel_rfl) rfl rfl ⟨(blk_cell BK111.out 0).trans rfl, (blk_cell BK111.out 1).trans rfl, (blk_cell BK111.out 2).trans rfl, (blk_cell BK111.out 3).trans rfl⟩ (fun hHeld => ?_); refine with_tabW sigv4_right.tab1 sigv4_right.bits1 (fun HT_ HW_ => ?_)
  generalize w34.drew = w35 at BK111 HB hHeld ⊢
  refine puw_ 0 3 1 34 HT_.out (h := ?_)
  refine take_ (i := 1) (N := some 4) (v := ?_) (a' := ?_) (fl_ 2 34) rfl rfl (take_ofW HT_.out HW_.out (by kernel_rfl)) (fun _ _ _ h => h) (Or.inl ⟨by rfl, ?_⟩) hHeld ?_ ?_
  rotate_left
  ·rintro w' ⟨s0, s1, s2, s3⟩
   go_simp
   with_reducible rfl
  rotate_left
  ·simp only [Act.put, spx_]
   rfl
  refine one_ (i := 2) (N := some 5) (fl_ 3 34) rfl rfl (one_of HT_.out (by kernel_rfl)) (by decide) (fun K hK => ?_)
  refine goes_ Tryz.func47 (by kernel_rfl) rfl #[.string (⟨#[97, 98, 99, 100, 101, 102, 103, 104, 105, 106, 107, 108, 109, 110, 111, 112, 113, 114, 115, 116, 117, 118, 119, 120, 121, 122]⟩ : ByteArray)] (by rfl) rfl rfl (by (try simp only [List.map_toArray, List.map_cons, List.map_nil]); first | done | rfl | (simp only [List.length_drop, List.length_take]; rfl)) ?_
  with_reducible refine (strings_ToUpper.calls (⟨#[97, 98, 99, 100, 101, 102, 103, 104, 105, 106, 107, 108, 109, 110, 111, 112, 113, 114, 115, 116, 117, 118, 119, 120, 121, 122]⟩ : ByteArray) t112 _ A2.out).mono ?_
  rintro e w36 ⟨rfl, hb⟩
  refine ⟨_, rfl, ?_⟩
  have n0_ := Aside0.mk (blk_below (g := gb111) (o := .cells #[.string a0_0, .string a0_1, .slice A0_2 l0_2.length c0_2, .string a0_3] 26 (0, 0)) (by (with_reducible repeat (first | refine blk_drewN ?_ _ | refine blk_drew ?_ | refine blk_alloc ?_ _)); exact BK111.out) hb)
  have n1_ := Aside0.mk (below_step hb2_ hb)
  clear BK111
  clear HB
  have BK111 := n0_
  have HB := n1_
  clear n0_ n1_
  (try clear hb)
  (try clear hb2)
  (try clear hk)
  (try clear hi)
  refine hK.out _ _ ⟨(blk_cell BK111.out 0).trans rfl, (blk_cell BK111.out 1).trans rfl, (blk_cell BK111.out 2).trans rfl, (blk_cell BK111.out 3).trans rfl⟩ (fun hHeld => ?_)
  clear hK K
  refine norm_ (a' := ?_) ?_ ?_
  rotate_left
  ·show Act.put _ (some 5) _ = _
   simp only [Act.put, spx_]
   rfl
  refine puw_ 3 6 4 34 HT_.out (h := ?_)
  refine puw_ 4 7 5 34 HT_.out (h := ?_)
  refine one_ (i := 5) (N := some 8) (fl_ 6 34) rfl rfl (one_of HT_.out (by kernel_rfl)) (by decide) (fun K hK => ?_)
  refine goes_ Tryz.func46 (by kernel_rfl) rfl #[.string a0_0, .string (((⟨#[97, 98, 99, 100, 101, 102, 103, 104, 105, 106, 107, 108, 109, 110, 111, 112, 113, 114, 115, 116, 117, 118, 119, 120, 121, 122]⟩ : ByteArray) ++ t112) ++ (⟨#[48, 49, 50, 51, 52, 53, 54, 55, 56, 57]⟩ : ByteArray)), .int .i64 16] (by rfl) rfl rfl (by (try simp only [List.map_toArray, List.map_cons, List.map_nil]); first | done | rfl | (simp only [List.length_drop, List.length_take]; rfl)) ?_
  with_reducible refine (sigv4_only.calls a0_0 (((⟨#[97, 98, 99, 100, 101, 102, 103, 104, 105, 106, 107, 108, 109, 110, 111, 112, 113, 114, 115, 116, 117, 118, 119, 120, 121, 122]⟩ : ByteArray) ++ t112) ++ (⟨#[48, 49, 50, 51, 52, 53, 54, 55, 56, 57]⟩ : ByteArray)) 16 true _ A5.out).mono ?_
  rintro e w37 ⟨rfl, hb⟩
  refine ⟨_, rfl, ?_⟩
  have n0_ := Aside0.mk (blk_below (g := gb111) (o := .cells #[.string a0_0, .string a0_1, .slice A0_2 l0_2.length c0_2, .string a0_3] 26 (0, 0)) (by (with_reducible repeat (first | refine blk_drewN ?_ _ | refine blk_drew ?_ | refine blk_alloc ?_ _)); exact BK111.out) hb)
  have n1_ := Aside0.mk (below_step hb2_ hb)
  clear BK111
  clear HB
  have BK111 := n0_
  have HB := n1_
  clear n0_ n1_
  (try clear hb)
  (try clear hb2)
  (try clear hk)
  (try clear hi)
  refine hK.out _ _ ⟨(blk_cell BK111.out 0).trans rfl, (blk_cell BK111.out 1).trans rfl, (blk_cell BK111.out 2).trans rfl, (blk_cell BK111.out 3).trans rfl⟩ (fun hHeld => ?_)
  clear hK K
  refine norm_ (a' := ?_) ?_ ?_
  rotate_left
  ·show Act.put _ (some 8) _ = _
   simp only [Act.put, spx_]
   rfl
  refine puw_ 6 9 7 34 HT_.out (h := ?_)
  refine puw_ 7 10 8 34 HT_.out (h := ?_)
  refine take_ (i := 8) (N := some 11) (v := ?_) (a' := ?_) (fl_ 9 34) rfl rfl (take_ofW HT_.out HW_.out (by kernel_rfl)) (fun _ _ _ h => h) (Or.inl ⟨by rfl, ?_⟩) hHeld ?_ ?_
  rotate_left
  ·rintro w' ⟨s0, s1, s2, s3⟩
   go_simp
   with_reducible rfl
  rotate_left
  ·simp only [Act.put, spx_]
   rfl
  refine one_ (i := 9) (N := some 12) (fl_ 10 34) rfl rfl (one_of HT_.out (by kernel_rfl)) (by decide) (fun K hK => ?_)
  refine goes_ Tryz.func46 (by kernel_rfl) rfl #[.string a0_1, .string (⟨#[48, 49, 50, 51, 52, 53, 54, 55, 56, 57]⟩ : ByteArray), .int .i64 8] (by rfl) rfl rfl (by (try simp only [List.map_toArray, List.map_cons, List.map_nil]); first | done | rfl | (simp only [List.length_drop, List.length_take]; rfl)) ?_
  with_reducible refine (sigv4_only.calls a0_1 (⟨#[48, 49, 50, 51, 52, 53, 54, 55, 56, 57]⟩ : ByteArray) 8 true _ A7.out).mono ?_
  rintro e w38 ⟨rfl, hb⟩
  refine ⟨_, rfl, ?_⟩
  have n0_ := Aside0.mk (blk_below (g := gb111) (o := .cells #[.string a0_0, .string a0_1, .slice A0_2 l0_2.length c0_2, .string a0_3] 26 (0, 0)) (by (with_reducible repeat (first | refine blk_drewN ?_ _ | refine blk_drew ?_ | refine blk_alloc ?_ _)); exact BK111.out) hb)
  have n1_ := Aside0.mk (below_step hb2_ hb)
  clear BK111
  clear HB
  have BK111 := n0_
  have HB := n1_
  clear n0_ n1_
  (try clear hb)
  (try clear hb2)
  (try clear hk)
  (try clear hi)
  refine hK.out _ _ ⟨(blk_cell BK111.out 0).trans rfl, (blk_cell BK111.out 1).trans rfl, (blk_cell BK111.out 2).trans rfl, (blk_cell BK111.out 3).trans rfl⟩ (fun hHeld => ?_)
  clear hK K
  refine norm_ (a' := ?_) ?_ ?_
  rotate_left
  ·show Act.put _ (some 12) _ = _
   simp only [Act.put, spx_]
   rfl
  refine puw_ 10 13 11 34 HT_.out (h := ?_)
  refine puw_ 11 14 12 34 HT_.out (h := ?_)
  refine puw_ 12 15 13 34 HT_.out (h := ?_)
  refine take_ (i := 13) (N := some 16) (v := ?_) (a' := ?_) (fl_ 14 34) rfl rfl (take_ofW HT_.out HW_.out (by kernel_rfl)) (fun _ _ _ h => h) (Or.inl ⟨by rfl, ?_⟩) hHeld ?_ ?_
  rotate_left
  ·rintro w' ⟨s0, s1, s2, s3⟩
   go_simp
   with_reducible rfl
  rotate_left
  ·simp only [Act.put, spx_]
   rfl
  refine puw_ 14 17 15 34 HT_.out (h := ?_)
  refine puw_ 15 18 16 34 HT_.out (h := ?_)
  refine puw_ 16 19 17 34 HT_.out (h := ?_)
  refine puw_ 17 20 18 34 HT_.out (h := ?_)
  refine pun_ 18 21 19 34 HT_.out (h := ?_)
  refine pun_ 19 22 20 34 HT_.out (h := ?_)
  refine pun_ 20 23 21 34 HT_.out (h := ?_)
  refine puw_ 21 24 22 34 HT_.out (h := ?_)
  refine puw_ 22 25 23 34 HT_.out (h := ?_)
  refine pun_ 23 26 24 34 HT_.out (h := ?_)
  refine pun_ 24 27 25 34 HT_.out (h := ?_)
  refine pun_ 25 28 26 34 HT_.out (h := ?_)
  refine puw_ 26 29 27 34 HT_.out (h := ?_)
  refine puw_ 27 30 28 34 HT_.out (h := ?_)
  refine pun_ 28 31 29 34 HT_.out (h := ?_)
  refine pun_ 29 32 30 34 HT_.out (h := ?_)
  refine pun_ 30 33 31 34 HT_.out (h := ?_)
  refine pun_ 31 34 32 34 HT_.out (h := ?_)
  refine puw_ 32 35 33 34 HT_.out (h := ?_)
  refine puw_ 33 2 34 34 HT_.out (h := ?_)
  refine done_ (done_of HT_.out (by kernel_rfl)) ?_
  try go_wp2
  go_ret
  exact ⟨by first | rfl | (simp [errW_none, errW_some] <;> rfl) | (simp [*, errW_none, errW_some] <;> rfl), hb2_⟩
 rw [if_pos c9] at H
 have c9b0 : ((a0_1.size : Int) == 8) = true := beq_iff_eq.mpr c9
 have c9b1 : ((a0_1.size : Int) != 8) = false := bne_eq_false_iff_eq.mpr c9
 clear c9
 replace H := Option.bind_eq_some_iff.mp H
 obtain ⟨t115, A100, H⟩ := H
 replace H : (if t115 = true then ((sigv4_only.f a0_3 (⟨#[48, 49, 50, 51, 52, 53, 54, 55, 56, 57, 97, 98, 99, 100, 101, 102]⟩ : ByteArray) 64).bind fun t116 => (if t116 = true then (some ((a0_3.size : Int) == 64)) else (some false))) else (some false)) = some r := H
 have A10 := Aside0.mk A100
 clear A100
 by_cases c11 : t115 = true
 rotate_left
 ·replace c11 := Bool.eq_false_iff.mpr c11
  subst c11
  have H1 : (some false) = some r := by rw [if_neg (show ¬ (false = true) by decide)] at H; exact H
  clear H
  have H := H1
  clear H1
  obtain rfl := Option.some.inj H
  go_enter Tryz.func22, Tryz.ntmps22
  try go_wp2_with (first | ((with_reducible refine gate_dst (N := 1) rfl ?_); (try (refine gate_guard (by rfl) ?_; dsimp only)); refine box_event ?hg (N := 1) ?hd (cs := #[.string a0_0, .string a0_1, .slice A0_2 l0_2.length c0_2, .string a0_3]) (t := 26) ?hr ?_; (case hd => rfl); (case hg => rfl); (case hr => first | (go_simp; done) | (go_simp; rfl)); intro gb111 hg w28 hbox hb; have n0_ := Aside0.mk (below_step hb0_ hb); have n1_ := Aside0.mk (hbox); have n2_ := Aside0.mk ((by rw [hg]; exact (below_size hb0_) : w.heap.size ≤ gb111)); have n3_ := Aside0.mk ((by rw [hg]; exact (below_size hb0_) : w.heap.size ≤ gb111)); clear HB; have HB := n0_; have BK111 := n1_; have GW111 := n2_; have GE111 := n3_; clear n0_ n1_ n2_ n3_; clear hb hbox hg))
  have n0_ := Aside0.mk (blk_drew BK111.out)
  have n1_ := Aside0.mk (below_drew1 HB.out)
  clear BK111
  clear HB
  have BK111 := n0_
  have HB := n1_
  clear n0_ n1_
  refine start_ (n := 34) (S := fun w' => w'.cell? ⟨gb111, 0, none⟩ = some (.string a0_0) ∧ w'.cell? ⟨gb111, 1, none⟩ = some (.string a0_1) ∧ w'.cell? ⟨gb111, 2, none⟩ = some (.slice A0_2 l0_2.length c0_2) ∧ w'.cell? ⟨gb111, 3, none⟩ = some (.string a0_3)) (ds := []) (fl_ 0 34) (by kernel_rfl) rfl rfl ⟨(blk_cell BK111.out 0).trans rfl, (blk_cell BK111.out 1).trans rfl, (blk_cell BK111.out 2).trans rfl, (blk_cell BK111.out 3).trans rfl⟩ (fun hHeld => ?_); refine with_tabW sigv4_right.tab1 sigv4_right.bits1 (fun HT_ HW_ => ?_)
  generalize w28.drew = w29 at BK111 HB hHeld ⊢
  refine puw_ 0 3 1 34 HT_.out (h := ?_)
  refine take_ (i := 1) (N := some 4) (v := ?_) (a' := ?_) (fl_ 2 34) rfl rfl (take_ofW HT_.out HW_.out (by kernel_rfl)) (fun _ _ _ h => h) (Or.inl ⟨by rfl, ?_⟩) hHeld ?_ ?_
  rotate_left
  ·rintro w' ⟨s0, s1, s2, s3⟩
   go_simp
   with_reducible rfl
  rotate_left
  ·simp only [Act.put, spx_]
   rfl
  refine one_ (i := 2) (N := some 5) (fl_ 3 34) rfl rfl (one_of HT_.out (by kernel_rfl)) (by decide) (fun K hK => ?_)
  refine goes_ Tryz.func47 (by kernel_rfl) rfl #[.string (⟨#[97, 98, 99, 100, 101, 102, 103, 104, 105, 106, 107, 108, 109, 110, 111, 112, 113, 114, 115, 116, 117, 118, 119, 120, 121, 122]⟩ : ByteArray)] (by rfl) rfl rfl (by (try simp only [List.map_toArray, List.map_cons, List.map_nil]); first | done | rfl | (simp only [List.length_drop, List.length_take]; rfl)) ?_
  with_reducible refine (strings_ToUpper.calls (⟨#[97, 98, 99, 100, 101, 102, 103, 104, 105, 106, 107, 108, 109, 110, 111, 112, 113, 114, 115, 116, 117, 118, 119, 120, 121, 122]⟩ : ByteArray) t112 _ A2.out).mono ?_
  rintro e w30 ⟨rfl, hb⟩
  refine ⟨_, rfl, ?_⟩
  have n0_ := Aside0.mk (blk_below (g := gb111) (o := .cells #[.string a0_0, .string a0_1, .slice A0_2 l0_2.length c0_2, .string a0_3] 26 (0, 0)) (by (with_reducible repeat (first | refine blk_drewN ?_ _ | refine blk_drew ?_ | refine blk_alloc ?_ _)); exact BK111.out) hb)
  have n1_ := Aside0.mk (below_step hb2_ hb)
  clear BK111
  clear HB
  have BK111 := n0_
  have HB := n1_
  clear n0_ n1_
  (try clear hb)
  (try clear hb2)
  (try clear hk)
  (try clear hi)
  refine hK.out _ _ ⟨(blk_cell BK111.out 0).trans rfl, (blk_cell BK111.out 1).trans rfl, (blk_cell BK111.out 2).trans rfl, (blk_cell BK111.out 3).trans rfl⟩ (fun hHeld => ?_)
  clear hK K
  refine norm_ (a' := ?_) ?_ ?_
  rotate_left
  ·show Act.put _ (some 5) _ = _
   simp only [Act.put, spx_]
   rfl
  refine puw_ 3 6 4 34 HT_.out (h := ?_)
  refine puw_ 4 7 5 34 HT_.out (h := ?_)
  refine one_ (i := 5) (N := some 8) (fl_ 6 34) rfl rfl (one_of HT_.out (by kernel_rfl)) (by decide) (fun K hK => ?_)
  refine goes_ Tryz.func46 (by kernel_rfl) rfl #[.string a0_0, .string (((⟨#[97, 98, 99, 100, 101, 102, 103, 104, 105, 106, 107, 108, 109, 110, 111, 112, 113, 114, 115, 116, 117, 118, 119, 120, 121, 122]⟩ : ByteArray) ++ t112) ++ (⟨#[48, 49, 50, 51, 52, 53, 54, 55, 56, 57]⟩ : ByteArray)), .int .i64 16] (by rfl) rfl rfl (by (try simp only [List.map_toArray, List.map_cons, List.map_nil]); first | done | rfl | (simp only [List.length_drop, List.length_take]; rfl)) ?_
  with_reducible refine (sigv4_only.calls a0_0 (((⟨#[97, 98, 99, 100, 101, 102, 103, 104, 105, 106, 107, 108, 109, 110, 111, 112, 113, 114, 115, 116, 117, 118, 119, 120, 121, 122]⟩ : ByteArray) ++ t112) ++ (⟨#[48, 49, 50, 51, 52, 53, 54, 55, 56, 57]⟩ : ByteArray)) 16 true _ A5.out).mono ?_
  rintro e w31 ⟨rfl, hb⟩
  refine ⟨_, rfl, ?_⟩
  have n0_ := Aside0.mk (blk_below (g := gb111) (o := .cells #[.string a0_0, .string a0_1, .slice A0_2 l0_2.length c0_2, .string a0_3] 26 (0, 0)) (by (with_reducible repeat (first | refine blk_drewN ?_ _ | refine blk_drew ?_ | refine blk_alloc ?_ _)); exact BK111.out) hb)
  have n1_ := Aside0.mk (below_step hb2_ hb)
  clear BK111
  clear HB
  have BK111 := n0_
  have HB := n1_
  clear n0_ n1_
  (try clear hb)
  (try clear hb2)
  (try clear hk)
  (try clear hi)
  refine hK.out _ _ ⟨(blk_cell BK111.out 0).trans rfl, (blk_cell BK111.out 1).trans rfl, (blk_cell BK111.out 2).trans rfl, (blk_cell BK111.out 3).trans rfl⟩ (fun hHeld => ?_)
  clear hK K
  refine norm_ (a' := ?_) ?_ ?_
  rotate_left
  ·show Act.put _ (some 8) _ = _
   simp only [Act.put, spx_]
   rfl
  refine puw_ 6 9 7 34 HT_.out (h := ?_)
  refine puw_ 7 10 8 34 HT_.out (h := ?_)
  refine take_ (i := 8) (N := some 11) (v := ?_) (a' := ?_) (fl_ 9 34) rfl rfl (take_ofW HT_.out HW_.out (by kernel_rfl)) (fun _ _ _ h => h) (Or.inl ⟨by rfl, ?_⟩) hHeld ?_ ?_
  rotate_left
  ·rintro w' ⟨s0, s1, s2, s3⟩
   go_simp
   with_reducible rfl
  rotate_left
  ·simp only [Act.put, spx_]
   rfl
  refine one_ (i := 9) (N := some 12) (fl_ 10 34) rfl rfl (one_of HT_.out (by kernel_rfl)) (by decide) (fun K hK => ?_)
  refine goes_ Tryz.func46 (by kernel_rfl) rfl #[.string a0_1, .string (⟨#[48, 49, 50, 51, 52, 53, 54, 55, 56, 57]⟩ : ByteArray), .int .i64 8] (by rfl) rfl rfl (by (try simp only [List.map_toArray, List.map_cons, List.map_nil]); first | done | rfl | (simp only [List.length_drop, List.length_take]; rfl)) ?_
  with_reducible refine (sigv4_only.calls a0_1 (⟨#[48, 49, 50, 51, 52, 53, 54, 55, 56, 57]⟩ : ByteArray) 8 true _ A7.out).mono ?_
  rintro e w32 ⟨rfl, hb⟩
  refine ⟨_, rfl, ?_⟩
  have n0_ := Aside0.mk (blk_below (g := gb111) (o := .cells #[.string a0_0, .string a0_1, .slice A0_2 l0_2.length c0_2, .string a0_3] 26 (0, 0)) (by (with_reducible repeat (first | refine blk_drewN ?_ _ | refine blk_drew ?_ | refine blk_alloc ?_ _)); exact BK111.out) hb)
  have n1_ := Aside0.mk (below_step hb2_ hb)
  clear BK111
  clear HB
  have BK111 := n0_
  have HB := n1_
  clear n0_ n1_
  (try clear hb)
  (try clear hb2)
  (try clear hk)
  (try clear hi)
  refine hK.out _ _ ⟨(blk_cell BK111.out 0).trans rfl, (blk_cell BK111.out 1).trans rfl, (blk_cell BK111.out 2).trans rfl, (blk_cell BK111.out 3).trans rfl⟩ (fun hHeld => ?_)
  clear hK K
  refine norm_ (a' := ?_) ?_ ?_
  rotate_left
  ·show Act.put _ (some 12) _ = _
   simp only [Act.put, spx_]
   rfl
  refine puw_ 10 13 11 34 HT_.out (h := ?_)
  refine puw_ 11 14 12 34 HT_.out (h := ?_)
  refine puw_ 12 15 13 34 HT_.out (h := ?_)
  refine take_ (i := 13) (N := some 16) (v := ?_) (a' := ?_) (fl_ 14 34) rfl rfl (take_ofW HT_.out HW_.out (by kernel_rfl)) (fun _ _ _ h => h) (Or.inl ⟨by rfl, ?_⟩) hHeld ?_ ?_
  rotate_left
  ·rintro w' ⟨s0, s1, s2, s3⟩
   go_simp
   with_reducible rfl
  rotate_left
  ·simp only [Act.put, spx_]
   rfl
  refine puw_ 14 17 15 34 HT_.out (h := ?_)
  refine puw_ 15 18 16 34 HT_.out (h := ?_)
  refine puw_ 16 19 17 34 HT_.out (h := ?_)
  refine puw_ 17 20 18 34 HT_.out (h := ?_)
  refine puw_ 18 21 19 34 HT_.out (h := ?_)
  refine take_ (i := 19) (N := some 22) (v := ?_) (a' := ?_) (fl_ 20 34) rfl rfl (take_ofW HT_.out HW_.out (by kernel_rfl)) (fun _ _ _ h => h) (Or.inl ⟨by rfl, ?_⟩) hHeld ?_ ?_
  rotate_left
  ·rintro w' ⟨s0, s1, s2, s3⟩
   go_simp
   with_reducible rfl
  rotate_left
  ·simp only [Act.put, spx_]
   rfl
  refine one_ (i := 20) (N := some 23) (fl_ 21 34) rfl rfl (one_of HT_.out (by kernel_rfl)) (by decide) (fun K hK => ?_)
  refine goes_ Tryz.func48 (by kernel_rfl) rfl #[.slice A0_2 l0_2.length c0_2] (by rfl) rfl rfl (by (try simp only [List.map_toArray, List.map_cons, List.map_nil]); first | done | rfl | (simp only [List.length_drop, List.length_take]; rfl)) ?_
  with_reducible refine (sigv4_names.calls _ _ _ _ _ _ ?side1 ?side2 A10.out).mono ?_
  (case side1 => repeat (first | exact (Kd.C_below HR0_2.out HB.out) | (with_reducible refine Kd.C_alloc ?_ _) | (with_reducible refine Kd.C_drewN ?_ _) | (with_reducible refine Kd.C_drew ?_)))
  (case side2 => exact HC0_2.out)
  rintro e w33 ⟨rfl, hb⟩
  refine ⟨_, rfl, ?_⟩
  have n0_ := Aside0.mk (blk_below (g := gb111) (o := .cells #[.string a0_0, .string a0_1, .slice A0_2 l0_2.length c0_2, .string a0_3] 26 (0, 0)) (by (with_reducible repeat (first | refine blk_drewN ?_ _ | refine blk_drew ?_ | refine blk_alloc ?_ _)); exact BK111.out) hb)
  have n1_ := Aside0.mk (below_step hb2_ hb)
  clear BK111
  clear HB
  have BK111 := n0_
  have HB := n1_
  clear n0_ n1_
  (try clear hb)
  (try clear hb2)
  (try clear hk)
  (try clear hi)
  refine hK.out _ _ ⟨(blk_cell BK111.out 0).trans rfl, (blk_cell BK111.out 1).trans rfl, (blk_cell BK111.out 2).trans rfl, (blk_cell BK111.out 3).trans rfl⟩ (fun hHeld => ?_)
  clear hK K
  refine norm_ (a' := ?_) ?_ ?_
  rotate_left
  ·show Act.put _ (some 23) _ = _
   simp only [Act.put, spx_]
   rfl
  refine puw_ 21 24 22 34 HT_.out (h := ?_)
  refine puw_ 22 25 23 34 HT_.out (h := ?_)
  refine pun_ 23 26 24 34 HT_.out (h := ?_)
  refine pun_ 24 27 25 34 HT_.out (h := ?_)
  refine pun_ 25 28 26 34 HT_.out (h := ?_)
  refine puw_ 26 29 27 34 HT_.out (h := ?_)
  refine puw_ 27 30 28 34 HT_.out (h := ?_)
  refine pun_ 28 31 29 34 HT_.out (h := ?_)
  refine pun_ 29 32 30 34 HT_.out (h := ?_)
  refine pun_ 30 33 31 34 HT_.out (h := ?_)
  refine pun_ 31 34 32 34 HT_.out (h := ?_)
  refine puw_ 32 35 33 34 HT_.out (h := ?_)
  refine puw_ 33 2 34 34 HT_.out (h := ?_)
  refine done_ (done_of HT_.out (by kernel_rfl)) ?_
  try go_wp2
  go_ret
  exact ⟨by first | rfl | (simp [errW_none, errW_some] <;> rfl) | (simp [*, errW_none, errW_some] <;> rfl), hb2_⟩
 subst c11
 have H1 : ((sigv4_only.f a0_3 (⟨#[48, 49, 50, 51, 52, 53, 54, 55, 56, 57, 97, 98, 99, 100, 101, 102]⟩ : ByteArray) 64).bind fun t116 => (if t116 = true then (some ((a0_3.size : Int) == 64)) else (some false))) = some r := by rw [if_pos rfl] at H; exact H
 clear H
 have H := H1
 clear H1
 replace H := Option.bind_eq_some_iff.mp H
 obtain ⟨t116, A120, H⟩ := H
 replace H : (if t116 = true then (some ((a0_3.size : Int) == 64)) else (some false)) = some r := H
 have A12 := Aside0.mk A120
 clear A120
 by_cases c13 : t116 = true
 rotate_left
 ·replace c13 := Bool.eq_false_iff.mpr c13
  subst c13
  have H1 : (some false) = some r := by rw [if_neg (show ¬ (false = true) by decide)] at H; exact H
  clear H
  have H := H1
  clear H1
  obtain rfl := Option.some.inj H
  go_enter Tryz.func22, Tryz.ntmps22
  try go_wp2_with (first | ((with_reducible refine gate_dst (N := 1) rfl ?_); (try (refine gate_guard (by rfl) ?_; dsimp only)); refine box_event ?hg (N := 1) ?hd (cs := #[.string a0_0, .string a0_1, .slice A0_2 l0_2.length c0_2, .string a0_3]) (t := 26) ?hr ?_; (case hd => rfl); (case hg => rfl); (case hr => first | (go_simp; done) | (go_simp; rfl)); intro gb111 hg w21 hbox hb; have n0_ := Aside0.mk (below_step hb0_ hb); have n1_ := Aside0.mk (hbox); have n2_ := Aside0.mk ((by rw [hg]; exact (below_size hb0_) : w.heap.size ≤ gb111)); have n3_ := Aside0.mk ((by rw [hg]; exact (below_size hb0_) : w.heap.size ≤ gb111)); clear HB; have HB := n0_; have BK111 := n1_; have GW111 := n2_; have GE111 := n3_; clear n0_ n1_ n2_ n3_; clear hb hbox hg))
  have n0_ := Aside0.mk (blk_drew BK111.out)
  have n1_ := Aside0.mk (below_drew1 HB.out)
  clear BK111
  clear HB
  have BK111 := n0_
  have HB := n1_
  clear n0_ n1_
  refine start_ (n := 34) (S := fun w' => w'.cell? ⟨gb111, 0, none⟩ = some (.string a0_0) ∧ w'.cell? ⟨gb111, 1, none⟩ = some (.string a0_1) ∧ w'.cell? ⟨gb111, 2, none⟩ = some (.slice A0_2 l0_2.length c0_2) ∧ w'.cell? ⟨gb111, 3, none⟩ = some (.string a0_3)) (ds := []) (fl_ 0 34) (by kernel_rfl) rfl rfl ⟨(blk_cell BK111.out 0).trans rfl, (blk_cell BK111.out 1).trans rfl, (blk_cell BK111.out 2).trans rfl, (blk_cell BK111.out 3).trans rfl⟩ (fun hHeld => ?_); refine with_tabW sigv4_right.tab1 sigv4_right.bits1 (fun HT_ HW_ => ?_)
  generalize w21.drew = w22 at BK111 HB hHeld ⊢
  refine puw_ 0 3 1 34 HT_.out (h := ?_)
  refine take_ (i := 1) (N := some 4) (v := ?_) (a' := ?_) (fl_ 2 34) rfl rfl (take_ofW HT_.out HW_.out (by kernel_rfl)) (fun _ _ _ h => h) (Or.inl ⟨by rfl, ?_⟩) hHeld ?_ ?_
  rotate_left
  ·rintro w' ⟨s0, s1, s2, s3⟩
   go_simp
   with_reducible rfl
  rotate_left
  ·simp only [Act.put, spx_]
   rfl
  refine one_ (i := 2) (N := some 5) (fl_ 3 34) rfl rfl (one_of HT_.out (by kernel_rfl)) (by decide) (fun K hK => ?_)
  refine goes_ Tryz.func47 (by kernel_rfl) rfl #[.string (⟨#[97, 98, 99, 100, 101, 102, 103, 104, 105, 106, 107, 108, 109, 110, 111, 112, 113, 114, 115, 116, 117, 118, 119, 120, 121, 122]⟩ : ByteArray)] (by rfl) rfl rfl (by (try simp only [List.map_toArray, List.map_cons, List.map_nil]); first | done | rfl | (simp only [List.length_drop, List.length_take]; rfl)) ?_
  with_reducible refine (strings_ToUpper.calls (⟨#[97, 98, 99, 100, 101, 102, 103, 104, 105, 106, 107, 108, 109, 110, 111, 112, 113, 114, 115, 116, 117, 118, 119, 120, 121, 122]⟩ : ByteArray) t112 _ A2.out).mono ?_
  rintro e w23 ⟨rfl, hb⟩
  refine ⟨_, rfl, ?_⟩
  have n0_ := Aside0.mk (blk_below (g := gb111) (o := .cells #[.string a0_0, .string a0_1, .slice A0_2 l0_2.length c0_2, .string a0_3] 26 (0, 0)) (by (with_reducible repeat (first | refine blk_drewN ?_ _ | refine blk_drew ?_ | refine blk_alloc ?_ _)); exact BK111.out) hb)
  have n1_ := Aside0.mk (below_step hb2_ hb)
  clear BK111
  clear HB
  have BK111 := n0_
  have HB := n1_
  clear n0_ n1_
  (try clear hb)
  (try clear hb2)
  (try clear hk)
  (try clear hi)
  refine hK.out _ _ ⟨(blk_cell BK111.out 0).trans rfl, (blk_cell BK111.out 1).trans rfl, (blk_cell BK111.out 2).trans rfl, (blk_cell BK111.out 3).trans rfl⟩ (fun hHeld => ?_)
  clear hK K
  refine norm_ (a' := ?_) ?_ ?_
  rotate_left
  ·show Act.put _ (some 5) _ = _
   simp only [Act.put, spx_]
   rfl
  refine puw_ 3 6 4 34 HT_.out (h := ?_)
  refine puw_ 4 7 5 34 HT_.out (h := ?_)
  refine one_ (i := 5) (N := some 8) (fl_ 6 34) rfl rfl (one_of HT_.out (by kernel_rfl)) (by decide) (fun K hK => ?_)
  refine goes_ Tryz.func46 (by kernel_rfl) rfl #[.string a0_0, .string (((⟨#[97, 98, 99, 100, 101, 102, 103, 104, 105, 106, 107, 108, 109, 110, 111, 112, 113, 114, 115, 116, 117, 118, 119, 120, 121, 122]⟩ : ByteArray) ++ t112) ++ (⟨#[48, 49, 50, 51, 52, 53, 54, 55, 56, 57]⟩ : ByteArray)), .int .i64 16] (by rfl) rfl rfl (by (try simp only [List.map_toArray, List.map_cons, List.map_nil]); first | done | rfl | (simp only [List.length_drop, List.length_take]; rfl)) ?_
  with_reducible refine (sigv4_only.calls a0_0 (((⟨#[97, 98, 99, 100, 101, 102, 103, 104, 105, 106, 107, 108, 109, 110, 111, 112, 113, 114, 115, 116, 117, 118, 119, 120, 121, 122]⟩ : ByteArray) ++ t112) ++ (⟨#[48, 49, 50, 51, 52, 53, 54, 55, 56, 57]⟩ : ByteArray)) 16 true _ A5.out).mono ?_
  rintro e w24 ⟨rfl, hb⟩
  refine ⟨_, rfl, ?_⟩
  have n0_ := Aside0.mk (blk_below (g := gb111) (o := .cells #[.string a0_0, .string a0_1, .slice A0_2 l0_2.length c0_2, .string a0_3] 26 (0, 0)) (by (with_reducible repeat (first | refine blk_drewN ?_ _ | refine blk_drew ?_ | refine blk_alloc ?_ _)); exact BK111.out) hb)
  have n1_ := Aside0.mk (below_step hb2_ hb)
  clear BK111
  clear HB
  have BK111 := n0_
  have HB := n1_
  clear n0_ n1_
  (try clear hb)
  (try clear hb2)
  (try clear hk)
  (try clear hi)
  refine hK.out _ _ ⟨(blk_cell BK111.out 0).trans rfl, (blk_cell BK111.out 1).trans rfl, (blk_cell BK111.out 2).trans rfl, (blk_cell BK111.out 3).trans rfl⟩ (fun hHeld => ?_)
  clear hK K
  refine norm_ (a' := ?_) ?_ ?_
  rotate_left
  ·show Act.put _ (some 8) _ = _
   simp only [Act.put, spx_]
   rfl
  refine puw_ 6 9 7 34 HT_.out (h := ?_)
  refine puw_ 7 10 8 34 HT_.out (h := ?_)
  refine take_ (i := 8) (N := some 11) (v := ?_) (a' := ?_) (fl_ 9 34) rfl rfl (take_ofW HT_.out HW_.out (by kernel_rfl)) (fun _ _ _ h => h) (Or.inl ⟨by rfl, ?_⟩) hHeld ?_ ?_
  rotate_left
  ·rintro w' ⟨s0, s1, s2, s3⟩
   go_simp
   with_reducible rfl
  rotate_left
  ·simp only [Act.put, spx_]
   rfl
  refine one_ (i := 9) (N := some 12) (fl_ 10 34) rfl rfl (one_of HT_.out (by kernel_rfl)) (by decide) (fun K hK => ?_)
  refine goes_ Tryz.func46 (by kernel_rfl) rfl #[.string a0_1, .string (⟨#[48, 49, 50, 51, 52, 53, 54, 55, 56, 57]⟩ : ByteArray), .int .i64 8] (by rfl) rfl rfl (by (try simp only [List.map_toArray, List.map_cons, List.map_nil]); first | done | rfl | (simp only [List.length_drop, List.length_take]; rfl)) ?_
  with_reducible refine (sigv4_only.calls a0_1 (⟨#[48, 49, 50, 51, 52, 53, 54, 55, 56, 57]⟩ : ByteArray) 8 true _ A7.out).mono ?_
  rintro e w25 ⟨rfl, hb⟩
  refine ⟨_, rfl, ?_⟩
  have n0_ := Aside0.mk (blk_below (g := gb111) (o := .cells #[.string a0_0, .string a0_1, .slice A0_2 l0_2.length c0_2, .string a0_3] 26 (0, 0)) (by (with_reducible repeat (first | refine blk_drewN ?_ _ | refine blk_drew ?_ | refine blk_alloc ?_ _)); exact BK111.out) hb)
  have n1_ := Aside0.mk (below_step hb2_ hb)
  clear BK111
  clear HB
  have BK111 := n0_
  have HB := n1_
  clear n0_ n1_
  (try clear hb)
  (try clear hb2)
  (try clear hk)
  (try clear hi)
  refine hK.out _ _ ⟨(blk_cell BK111.out 0).trans rfl, (blk_cell BK111.out 1).trans rfl, (blk_cell BK111.out 2).trans rfl, (blk_cell BK111.out 3).trans rfl⟩ (fun hHeld => ?_)
  clear hK K
  refine norm_ (a' := ?_) ?_ ?_
  rotate_left
  ·show Act.put _ (some 12) _ = _
   simp only [Act.put, spx_]
   rfl
  refine puw_ 10 13 11 34 HT_.out (h := ?_)
  refine puw_ 11 14 12 34 HT_.out (h := ?_)
  refine puw_ 12 15 13 34 HT_.out (h := ?_)
  refine take_ (i := 13) (N := some 16) (v := ?_) (a' := ?_) (fl_ 14 34) rfl rfl (take_ofW HT_.out HW_.out (by kernel_rfl)) (fun _ _ _ h => h) (Or.inl ⟨by rfl, ?_⟩) hHeld ?_ ?_
  rotate_left
  ·rintro w' ⟨s0, s1, s2, s3⟩
   go_simp
   with_reducible rfl
  rotate_left
  ·simp only [Act.put, spx_]
   rfl
  refine puw_ 14 17 15 34 HT_.out (h := ?_)
  refine puw_ 15 18 16 34 HT_.out (h := ?_)
  refine puw_ 16 19 17 34 HT_.out (h := ?_)
  refine puw_ 17 20 18 34 HT_.out (h := ?_)
  refine puw_ 18 21 19 34 HT_.out (h := ?_)
  refine take_ (i := 19) (N := some 22) (v := ?_) (a' := ?_) (fl_ 20 34) rfl rfl (take_ofW HT_.out HW_.out (by kernel_rfl)) (fun _ _ _ h => h) (Or.inl ⟨by rfl, ?_⟩) hHeld ?_ ?_
  rotate_left
  ·rintro w' ⟨s0, s1, s2, s3⟩
   go_simp
   with_reducible rfl
  rotate_left
  ·simp only [Act.put, spx_]
   rfl
  refine one_ (i := 20) (N := some 23) (fl_ 21 34) rfl rfl (one_of HT_.out (by kernel_rfl)) (by decide) (fun K hK => ?_)
  refine goes_ Tryz.func48 (by kernel_rfl) rfl #[.slice A0_2 l0_2.length c0_2] (by rfl) rfl rfl (by (try simp only [List.map_toArray, List.map_cons, List.map_nil]); first | done | rfl | (simp only [List.length_drop, List.length_take]; rfl)) ?_
  with_reducible refine (sigv4_names.calls _ _ _ _ _ _ ?side1 ?side2 A10.out).mono ?_
  (case side1 => repeat (first | exact (Kd.C_below HR0_2.out HB.out) | (with_reducible refine Kd.C_alloc ?_ _) | (with_reducible refine Kd.C_drewN ?_ _) | (with_reducible refine Kd.C_drew ?_)))
  (case side2 => exact HC0_2.out)
  rintro e w26 ⟨rfl, hb⟩
  refine ⟨_, rfl, ?_⟩
  have n0_ := Aside0.mk (blk_below (g := gb111) (o := .cells #[.string a0_0, .string a0_1, .slice A0_2 l0_2.length c0_2, .string a0_3] 26 (0, 0)) (by (with_reducible repeat (first | refine blk_drewN ?_ _ | refine blk_drew ?_ | refine blk_alloc ?_ _)); exact BK111.out) hb)
  have n1_ := Aside0.mk (below_step hb2_ hb)
  clear BK111
  clear HB
  have BK111 := n0_
  have HB := n1_
  clear n0_ n1_
  (try clear hb)
  (try clear hb2)
  (try clear hk)
  (try clear hi)
  refine hK.out _ _ ⟨(blk_cell BK111.out 0).trans rfl, (blk_cell BK111.out 1).trans rfl, (blk_cell BK111.out 2).trans rfl, (blk_cell BK111.out 3).trans rfl⟩ (fun hHeld => ?_)
  clear hK K
  refine norm_ (a' := ?_) ?_ ?_
  rotate_left
  ·show Act.put _ (some 23) _ = _
   simp only [Act.put, spx_]
   rfl
  refine puw_ 21 24 22 34 HT_.out (h := ?_)
  refine puw_ 22 25 23 34 HT_.out (h := ?_)
  refine puw_ 23 26 24 34 HT_.out (h := ?_)
  refine take_ (i := 24) (N := some 27) (v := ?_) (a' := ?_) (fl_ 25 34) rfl rfl (take_ofW HT_.out HW_.out (by kernel_rfl)) (fun _ _ _ h => h) (Or.inl ⟨by rfl, ?_⟩) hHeld ?_ ?_
  rotate_left
  ·rintro w' ⟨s0, s1, s2, s3⟩
   go_simp
   with_reducible rfl
  rotate_left
  ·simp only [Act.put, spx_]
   rfl
  refine one_ (i := 25) (N := some 28) (fl_ 26 34) rfl rfl (one_of HT_.out (by kernel_rfl)) (by decide) (fun K hK => ?_)
  refine goes_ Tryz.func46 (by kernel_rfl) rfl #[.string a0_3, .string (⟨#[48, 49, 50, 51, 52, 53, 54, 55, 56, 57, 97, 98, 99, 100, 101, 102]⟩ : ByteArray), .int .i64 64] (by rfl) rfl rfl (by (try simp only [List.map_toArray, List.map_cons, List.map_nil]); first | done | rfl | (simp only [List.length_drop, List.length_take]; rfl)) ?_
  with_reducible refine (sigv4_only.calls a0_3 (⟨#[48, 49, 50, 51, 52, 53, 54, 55, 56, 57, 97, 98, 99, 100, 101, 102]⟩ : ByteArray) 64 false _ A12.out).mono ?_
  rintro e w27 ⟨rfl, hb⟩
  refine ⟨_, rfl, ?_⟩
  have n0_ := Aside0.mk (blk_below (g := gb111) (o := .cells #[.string a0_0, .string a0_1, .slice A0_2 l0_2.length c0_2, .string a0_3] 26 (0, 0)) (by (with_reducible repeat (first | refine blk_drewN ?_ _ | refine blk_drew ?_ | refine blk_alloc ?_ _)); exact BK111.out) hb)
  have n1_ := Aside0.mk (below_step hb2_ hb)
  clear BK111
  clear HB
  have BK111 := n0_
  have HB := n1_
  clear n0_ n1_
  (try clear hb)
  (try clear hb2)
  (try clear hk)
  (try clear hi)
  refine hK.out _ _ ⟨(blk_cell BK111.out 0).trans rfl, (blk_cell BK111.out 1).trans rfl, (blk_cell BK111.out 2).trans rfl, (blk_cell BK111.out 3).trans rfl⟩ (fun hHeld => ?_)
  clear hK K
  refine norm_ (a' := ?_) ?_ ?_
  rotate_left
  ·show Act.put _ (some 28) _ = _
   simp only [Act.put, spx_]
   rfl
  refine puw_ 26 29 27 34 HT_.out (h := ?_)
  refine puw_ 27 30 28 34 HT_.out (h := ?_)
  refine pun_ 28 31 29 34 HT_.out (h := ?_)
  refine pun_ 29 32 30 34 HT_.out (h := ?_)
  refine pun_ 30 33 31 34 HT_.out (h := ?_)
  refine pun_ 31 34 32 34 HT_.out (h := ?_)
  refine puw_ 32 35 33 34 HT_.out (h := ?_)
  refine puw_ 33 2 34 34 HT_.out (h := ?_)
  refine done_ (done_of HT_.out (by kernel_rfl)) ?_
  try go_wp2
  go_ret
  exact ⟨by first | rfl | (simp [errW_none, errW_some] <;> rfl) | (simp [*, errW_none, errW_some] <;> rfl), hb2_⟩
 subst c13
 have H1 : (some ((a0_3.size : Int) == 64)) = some r := by rw [if_pos rfl] at H; exact H
 clear H
 have H := H1
 clear H1
 obtain rfl := Option.some.inj H
 go_enter Tryz.func22, Tryz.ntmps22
 try go_wp2_with (first | ((with_reducible refine gate_dst (N := 1) rfl ?_); (try (refine gate_guard (by rfl) ?_; dsimp only)); refine box_event ?hg (N := 1) ?hd (cs := #[.string a0_0, .string a0_1, .slice A0_2 l0_2.length c0_2, .string a0_3]) (t := 26) ?hr ?_; (case hd => rfl); (case hg => rfl); (case hr => first | (go_simp; done) | (go_simp; rfl)); intro gb111 hg w14 hbox hb; have n0_ := Aside0.mk (below_step hb0_ hb); have n1_ := Aside0.mk (hbox); have n2_ := Aside0.mk ((by rw [hg]; exact (below_size hb0_) : w.heap.size ≤ gb111)); have n3_ := Aside0.mk ((by rw [hg]; exact (below_size hb0_) : w.heap.size ≤ gb111)); clear HB; have HB := n0_; have BK111 := n1_; have GW111 := n2_; have GE111 := n3_; clear n0_ n1_ n2_ n3_; clear hb hbox hg))
 have n0_ := Aside0.mk (blk_drew BK111.out)
 have n1_ := Aside0.mk (below_drew1 HB.out)
 clear BK111
 clear HB
 have BK111 := n0_
 have HB := n1_
 clear n0_ n1_
 refine start_ (n := 34) (S := fun w' => w'.cell? ⟨gb111, 0, none⟩ = some (.string a0_0) ∧ w'.cell? ⟨gb111, 1, none⟩ = some (.string a0_1) ∧ w'.cell? ⟨gb111, 2, none⟩ = some (.slice A0_2 l0_2.length c0_2) ∧ w'.cell? ⟨gb111, 3, none⟩ = some (.string a0_3)) (ds := []) (fl_ 0 34) (by kernel_rfl) rfl rfl ⟨(blk_cell BK111.out 0).trans rfl, (blk_cell BK111.out 1).trans rfl, (blk_cell BK111.out 2).trans rfl, (blk_cell BK111.out 3).trans rfl⟩ (fun hHeld => ?_); refine with_tabW sigv4_right.tab1 sigv4_right.bits1 (fun HT_ HW_ => ?_)
 generalize w14.drew = w15 at BK111 HB hHeld ⊢
 refine puw_ 0 3 1 34 HT_.out (h := ?_)
 refine take_ (i := 1) (N := some 4) (v := ?_) (a' := ?_) (fl_ 2 34) rfl rfl (take_ofW HT_.out HW_.out (by kernel_rfl)) (fun _ _ _ h => h) (Or.inl ⟨by rfl, ?_⟩) hHeld ?_ ?_
 rotate_left
 ·rintro w' ⟨s0, s1, s2, s3⟩
  go_simp
  with_reducible rfl
 rotate_left
 ·simp only [Act.put, spx_]
  rfl
 refine one_ (i := 2) (N := some 5) (fl_ 3 34) rfl rfl (one_of HT_.out (by kernel_rfl)) (by decide) (fun K hK => ?_)
 refine goes_ Tryz.func47 (by kernel_rfl) rfl #[.string (⟨#[97, 98, 99, 100, 101, 102, 103, 104, 105, 106, 107, 108, 109, 110, 111, 112, 113, 114, 115, 116, 117, 118, 119, 120, 121, 122]⟩ : ByteArray)] (by rfl) rfl rfl (by (try simp only [List.map_toArray, List.map_cons, List.map_nil]); first | done | rfl | (simp only [List.length_drop, List.length_take]; rfl)) ?_
 with_reducible refine (strings_ToUpper.calls (⟨#[97, 98, 99, 100, 101, 102, 103, 104, 105, 106, 107, 108, 109, 110, 111, 112, 113, 114, 115, 116, 117, 118, 119, 120, 121, 122]⟩ : ByteArray) t112 _ A2.out).mono ?_
 rintro e w16 ⟨rfl, hb⟩
 refine ⟨_, rfl, ?_⟩
 have n0_ := Aside0.mk (blk_below (g := gb111) (o := .cells #[.string a0_0, .string a0_1, .slice A0_2 l0_2.length c0_2, .string a0_3] 26 (0, 0)) (by (with_reducible repeat (first | refine blk_drewN ?_ _ | refine blk_drew ?_ | refine blk_alloc ?_ _)); exact BK111.out) hb)
 have n1_ := Aside0.mk (below_step hb2_ hb)
 clear BK111
 clear HB
 have BK111 := n0_
 have HB := n1_
 clear n0_ n1_
 (try clear hb)
 (try clear hb2)
 (try clear hk)
 (try clear hi)
 refine hK.out _ _ ⟨(blk_cell BK111.out 0).trans rfl, (blk_cell BK111.out 1).trans rfl, (blk_cell BK111.out 2).trans rfl, (blk_cell BK111.out 3).trans rfl⟩ (fun hHeld => ?_)
 clear hK K
 refine norm_ (a' := ?_) ?_ ?_
 rotate_left
 ·show Act.put _ (some 5) _ = _
  simp only [Act.put, spx_]
  rfl
 refine puw_ 3 6 4 34 HT_.out (h := ?_)
 refine puw_ 4 7 5 34 HT_.out (h := ?_)
 refine one_ (i := 5) (N := some 8) (fl_ 6 34) rfl rfl (one_of HT_.out (by kernel_rfl)) (by decide) (fun K hK => ?_)
 refine goes_ Tryz.func46 (by kernel_rfl) rfl #[.string a0_0, .string (((⟨#[97, 98, 99, 100, 101, 102, 103, 104, 105, 106, 107, 108, 109, 110, 111, 112, 113, 114, 115, 116, 117, 118, 119, 120, 121, 122]⟩ : ByteArray) ++ t112) ++ (⟨#[48, 49, 50, 51, 52, 53, 54, 55, 56, 57]⟩ : ByteArray)), .int .i64 16] (by rfl) rfl rfl (by (try simp only [List.map_toArray, List.map_cons, List.map_nil]); first | done | rfl | (simp only [List.length_drop, List.length_take]; rfl)) ?_
 with_reducible refine (sigv4_only.calls a0_0 (((⟨#[97, 98, 99, 100, 101, 102, 103, 104, 105, 106, 107, 108, 109, 110, 111, 112, 113, 114, 115, 116, 117, 118, 119, 120, 121, 122]⟩ : ByteArray) ++ t112) ++ (⟨#[48, 49, 50, 51, 52, 53, 54, 55, 56, 57]⟩ : ByteArray)) 16 true _ A5.out).mono ?_
 rintro e w17 ⟨rfl, hb⟩
 refine ⟨_, rfl, ?_⟩
 have n0_ := Aside0.mk (blk_below (g := gb111) (o := .cells #[.string a0_0, .string a0_1, .slice A0_2 l0_2.length c0_2, .string a0_3] 26 (0, 0)) (by (with_reducible repeat (first | refine blk_drewN ?_ _ | refine blk_drew ?_ | refine blk_alloc ?_ _)); exact BK111.out) hb)
 have n1_ := Aside0.mk (below_step hb2_ hb)
 clear BK111
 clear HB
 have BK111 := n0_
 have HB := n1_
 clear n0_ n1_
 (try clear hb)
 (try clear hb2)
 (try clear hk)
 (try clear hi)
 refine hK.out _ _ ⟨(blk_cell BK111.out 0).trans rfl, (blk_cell BK111.out 1).trans rfl, (blk_cell BK111.out 2).trans rfl, (blk_cell BK111.out 3).trans rfl⟩ (fun hHeld => ?_)
 clear hK K
 refine norm_ (a' := ?_) ?_ ?_
 rotate_left
 ·show Act.put _ (some 8) _ = _
  simp only [Act.put, spx_]
  rfl
 refine puw_ 6 9 7 34 HT_.out (h := ?_)
 refine puw_ 7 10 8 34 HT_.out (h := ?_)
 refine take_ (i := 8) (N := some 11) (v := ?_) (a' := ?_) (fl_ 9 34) rfl rfl (take_ofW HT_.out HW_.out (by kernel_rfl)) (fun _ _ _ h => h) (Or.inl ⟨by rfl, ?_⟩) hHeld ?_ ?_
 rotate_left
 ·rintro w' ⟨s0, s1, s2, s3⟩
  go_simp
  with_reducible rfl
 rotate_left
 ·simp only [Act.put, spx_]
  rfl
 refine one_ (i := 9) (N := some 12) (fl_ 10 34) rfl rfl (one_of HT_.out (by kernel_rfl)) (by decide) (fun K hK => ?_)
 refine goes_ Tryz.func46 (by kernel_rfl) rfl #[.string a0_1, .string (⟨#[48, 49, 50, 51, 52, 53, 54, 55, 56, 57]⟩ : ByteArray), .int .i64 8] (by rfl) rfl rfl (by (try simp only [List.map_toArray, List.map_cons, List.map_nil]); first | done | rfl | (simp only [List.length_drop, List.length_take]; rfl)) ?_
 with_reducible refine (sigv4_only.calls a0_1 (⟨#[48, 49, 50, 51, 52, 53, 54, 55, 56, 57]⟩ : ByteArray) 8 true _ A7.out).mono ?_
 rintro e w18 ⟨rfl, hb⟩
 refine ⟨_, rfl, ?_⟩
 have n0_ := Aside0.mk (blk_below (g := gb111) (o := .cells #[.string a0_0, .string a0_1, .slice A0_2 l0_2.length c0_2, .string a0_3] 26 (0, 0)) (by (with_reducible repeat (first | refine blk_drewN ?_ _ | refine blk_drew ?_ | refine blk_alloc ?_ _)); exact BK111.out) hb)
 have n1_ := Aside0.mk (below_step hb2_ hb)
 clear BK111
 clear HB
 have BK111 := n0_
 have HB := n1_
 clear n0_ n1_
 (try clear hb)
 (try clear hb2)
 (try clear hk)
 (try clear hi)
 refine hK.out _ _ ⟨(blk_cell BK111.out 0).trans rfl, (blk_cell BK111.out 1).trans rfl, (blk_cell BK111.out 2).trans rfl, (blk_cell BK111.out 3).trans rfl⟩ (fun hHeld => ?_)
 clear hK K
 refine norm_ (a' := ?_) ?_ ?_
 rotate_left
 ·show Act.put _ (some 12) _ = _
  simp only [Act.put, spx_]
  rfl
 refine puw_ 10 13 11 34 HT_.out (h := ?_)
 refine puw_ 11 14 12 34 HT_.out (h := ?_)
 refine puw_ 12 15 13 34 HT_.out (h := ?_)
 refine take_ (i := 13) (N := some 16) (v := ?_) (a' := ?_) (fl_ 14 34) rfl rfl (take_ofW HT_.out HW_.out (by kernel_rfl)) (fun _ _ _ h => h) (Or.inl ⟨by rfl, ?_⟩) hHeld ?_ ?_
 rotate_left
 ·rintro w' ⟨s0, s1, s2, s3⟩
  go_simp
  with_reducible rfl
 rotate_left
 ·simp only [Act.put, spx_]
  rfl
 refine puw_ 14 17 15 34 HT_.out (h := ?_)
 refine puw_ 15 18 16 34 HT_.out (h := ?_)
 refine puw_ 16 19 17 34 HT_.out (h := ?_)
 refine puw_ 17 20 18 34 HT_.out (h := ?_)
 refine puw_ 18 21 19 34 HT_.out (h := ?_)
 refine take_ (i := 19) (N := some 22) (v := ?_) (a' := ?_) (fl_ 20 34) rfl rfl (take_ofW HT_.out HW_.out (by kernel_rfl)) (fun _ _ _ h => h) (Or.inl ⟨by rfl, ?_⟩) hHeld ?_ ?_
 rotate_left
 ·rintro w' ⟨s0, s1, s2, s3⟩
  go_simp
  with_reducible rfl
 rotate_left
 ·simp only [Act.put, spx_]
  rfl
 refine one_ (i := 20) (N := some 23) (fl_ 21 34) rfl rfl (one_of HT_.out (by kernel_rfl)) (by decide) (fun K hK => ?_)
 refine goes_ Tryz.func48 (by kernel_rfl) rfl #[.slice A0_2 l0_2.length c0_2] (by rfl) rfl rfl (by (try simp only [List.map_toArray, List.map_cons, List.map_nil]); first | done | rfl | (simp only [List.length_drop, List.length_take]; rfl)) ?_
 with_reducible refine (sigv4_names.calls _ _ _ _ _ _ ?side1 ?side2 A10.out).mono ?_
 (case side1 => repeat (first | exact (Kd.C_below HR0_2.out HB.out) | (with_reducible refine Kd.C_alloc ?_ _) | (with_reducible refine Kd.C_drewN ?_ _) | (with_reducible refine Kd.C_drew ?_)))
 (case side2 => exact HC0_2.out)
 rintro e w19 ⟨rfl, hb⟩
 refine ⟨_, rfl, ?_⟩
 have n0_ := Aside0.mk (blk_below (g := gb111) (o := .cells #[.string a0_0, .string a0_1, .slice A0_2 l0_2.length c0_2, .string a0_3] 26 (0, 0)) (by (with_reducible repeat (first | refine blk_drewN ?_ _ | refine blk_drew ?_ | refine blk_alloc ?_ _)); exact BK111.out) hb)
 have n1_ := Aside0.mk (below_step hb2_ hb)
 clear BK111
 clear HB
 have BK111 := n0_
 have HB := n1_
 clear n0_ n1_
 (try clear hb)
 (try clear hb2)
 (try clear hk)
 (try clear hi)
 refine hK.out _ _ ⟨(blk_cell BK111.out 0).trans rfl, (blk_cell BK111.out 1).trans rfl, (blk_cell BK111.out 2).trans rfl, (blk_cell BK111.out 3).trans rfl⟩ (fun hHeld => ?_)
 clear hK K
 refine norm_ (a' := ?_) ?_ ?_
 rotate_left
 ·show Act.put _ (some 23) _ = _
  simp only [Act.put, spx_]
  rfl
 refine puw_ 21 24 22 34 HT_.out (h := ?_)
 refine puw_ 22 25 23 34 HT_.out (h := ?_)
 refine puw_ 23 26 24 34 HT_.out (h := ?_)
 refine take_ (i := 24) (N := some 27) (v := ?_) (a' := ?_) (fl_ 25 34) rfl rfl (take_ofW HT_.out HW_.out (by kernel_rfl)) (fun _ _ _ h => h) (Or.inl ⟨by rfl, ?_⟩) hHeld ?_ ?_
 rotate_left
 ·rintro w' ⟨s0, s1, s2, s3⟩
  go_simp
  with_reducible rfl
 rotate_left
 ·simp only [Act.put, spx_]
  rfl
 refine one_ (i := 25) (N := some 28) (fl_ 26 34) rfl rfl (one_of HT_.out (by kernel_rfl)) (by decide) (fun K hK => ?_)
 refine goes_ Tryz.func46 (by kernel_rfl) rfl #[.string a0_3, .string (⟨#[48, 49, 50, 51, 52, 53, 54, 55, 56, 57, 97, 98, 99, 100, 101, 102]⟩ : ByteArray), .int .i64 64] (by rfl) rfl rfl (by (try simp only [List.map_toArray, List.map_cons, List.map_nil]); first | done | rfl | (simp only [List.length_drop, List.length_take]; rfl)) ?_
 with_reducible refine (sigv4_only.calls a0_3 (⟨#[48, 49, 50, 51, 52, 53, 54, 55, 56, 57, 97, 98, 99, 100, 101, 102]⟩ : ByteArray) 64 true _ A12.out).mono ?_
 rintro e w20 ⟨rfl, hb⟩
 refine ⟨_, rfl, ?_⟩
 have n0_ := Aside0.mk (blk_below (g := gb111) (o := .cells #[.string a0_0, .string a0_1, .slice A0_2 l0_2.length c0_2, .string a0_3] 26 (0, 0)) (by (with_reducible repeat (first | refine blk_drewN ?_ _ | refine blk_drew ?_ | refine blk_alloc ?_ _)); exact BK111.out) hb)
 have n1_ := Aside0.mk (below_step hb2_ hb)
 clear BK111
 clear HB
 have BK111 := n0_
 have HB := n1_
 clear n0_ n1_
 (try clear hb)
 (try clear hb2)
 (try clear hk)
 (try clear hi)
 refine hK.out _ _ ⟨(blk_cell BK111.out 0).trans rfl, (blk_cell BK111.out 1).trans rfl, (blk_cell BK111.out 2).trans rfl, (blk_cell BK111.out 3).trans rfl⟩ (fun hHeld => ?_)
 clear hK K
 refine norm_ (a' := ?_) ?_ ?_
 rotate_left
 ·show Act.put _ (some 28) _ = _
  simp only [Act.put, spx_]
  rfl
 refine puw_ 26 29 27 34 HT_.out (h := ?_)
 refine puw_ 27 30 28 34 HT_.out (h := ?_)
 refine puw_ 28 31 29 34 HT_.out (h := ?_)
 refine take_ (i := 29) (N := some 32) (v := ?_) (a' := ?_) (fl_ 30 34) rfl rfl (take_ofW HT_.out HW_.out (by kernel_rfl)) (fun _ _ _ h => h) (Or.inl ⟨by rfl, ?_⟩) hHeld ?_ ?_
 rotate_left
 ·rintro w' ⟨s0, s1, s2, s3⟩
  go_simp
  with_reducible rfl
 rotate_left
 ·simp only [Act.put, spx_]
  rfl
 refine puw_ 30 33 31 34 HT_.out (h := ?_)
 refine puw_ 31 34 32 34 HT_.out (h := ?_)
 refine puw_ 32 35 33 34 HT_.out (h := ?_)
 refine puw_ 33 2 34 34 HT_.out (h := ?_)
 refine done_ (done_of HT_.out (by kernel_rfl)) ?_
 try go_wp2
 go_ret
 exact ⟨by first | rfl | (simp [errW_none, errW_some] <;> rfl) | (simp [*, errW_none, errW_some] <;> rfl), hb2_⟩
end Go.Proofs.YtghcadbmjglidaaGreatDoor.PSg
end
section
namespace Go.Proofs.YtghcadbmjglidaaGreatDoor.PSg
open Go.RowKit Go.Proofs.YtghcadbmjglidaaGreatDoorW.PrintWords Go.Proofs.YtghcadbmjglidaaGreatDoorW.PrintLast Go.Proofs.YtghcadbmjglidaaGreatDoorW.PrintMore
attribute [local go_sem] max2_int min2_int max_two min_two max_three min_three max_four min_four
set_option linter.unusedVariables false
set_option linter.unusedSimpArgs false
def algA : List UInt8 := [65, 87, 83, 52, 45, 72, 77, 65, 67, 45, 83, 72, 65, 50, 53, 54, 32, 67, 114, 101, 100, 101, 110, 116, 105, 97, 108, 61]
def scA : List UInt8 := [47, 108, 111, 99, 97, 108, 47, 115, 51, 47, 97, 119, 115, 52, 95, 114, 101, 113, 117, 101, 115, 116, 44, 32, 83, 105, 103, 110, 101, 100, 72, 101, 97, 100, 101, 114, 115, 61]
def sgA : List UInt8 := [44, 32, 83, 105, 103, 110, 97, 116, 117, 114, 101, 61]
def cA1 (s : List UInt8) := Lib.cut s algA
def cA2 (s : List UInt8) := Lib.cut (cA1 s).2.1 [47]
def cA3 (s : List UInt8) := Lib.cut (cA2 s).2.1 scA
def cA4 (s : List UInt8) := Lib.cut (cA3 s).2.1 sgA
def lA (s : List UInt8) : List ByteArray := Lib.splitB (ba [59]) 0 (Lib.countB (ba (cA4 s).1) (ba [59])) (ba (cA4 s).1)
def readA (k : Nat) (a0 : ByteArray) : Option (ByteArray × ByteArray × List ByteArray × ByteArray × Int) :=
 if a0.size ≤ 1000000000 then
  (sigv4_right.f k (ba (cA2 (bl a0)).1) (ba (cA3 (bl a0)).1) (lA (bl a0)) (ba (cA4 (bl a0)).2.1)).bind fun b =>
   if b = true then (sigv4_ShowAuth.f (ba (cA2 (bl a0)).1) (ba (cA3 (bl a0)).1) (lA (bl a0)) (ba (cA4 (bl a0)).2.1)).bind fun t =>
    if t.toList = a0.toList then some (ba (cA2 (bl a0)).1, ba (cA3 (bl a0)).1, lA (bl a0), ba (cA4 (bl a0)).2.1, 0) else some (⟨#[]⟩, ⟨#[]⟩, [], ⟨#[]⟩, 20)
   else some (⟨#[]⟩, ⟨#[]⟩, [], ⟨#[]⟩, 20)
 else none
theorem cut_le (s sep : List UInt8) : (Lib.cut s sep).1.length ≤ s.length ∧ (Lib.cut s sep).2.1.length ≤ s.length := by
 unfold Lib.cut; split <;> simp <;> omega
theorem lA_len (s : List UInt8) : (lA s).length = Lib.countB (ba (cA4 s).1) (ba [59]) + 1 := Lib.splitB_all _ (by decide) _ _ _ rfl
theorem lA_row {W : World} {base : Nat} (s : List UInt8) (hb : base ≤ W.heap.size) (hl : (cA4 s).1.length ≤ 1000000000) {W' : World} (hh : W'.heap[W.heap.size]? = some (.cells ((lA s).map Value.string).toArray 9 (0, 0))) :
  Kd.R Kd.string 9 W' base (fun _ => True) (.slice (some ⟨W.heap.size, 0, none⟩) (lA s).length (lA s).length) (lA s) := by
 have hn := lA_len s
 have hle := Lib.countB_le (ba [59]) (by decide) _ (ba (cA4 s).1) (Nat.le_refl _)
 have hz : (ba (cA4 s).1).size = (cA4 s).1.length := rfl
 refine Kd.R_of_own (enc := Value.string) (h1 := fun _ => rfl) (xs := lA s) ?_ (fun _ _ => trivial)
 refine ⟨by rw [encs_length, Nat.mul_one], .inr ⟨W.heap.size, (lA s).length, _, rfl, hb, hh, Nat.le_refl _, by rw [hn, maxLen]; omega, by simp, ?_⟩⟩
 show List.take _ _ = (lA s).map Value.string
 rw [Nat.mul_one, List.take_of_length_le (by simp)]
theorem scope_val : sigv4_scope.f ⟨#[]⟩ = some ⟨#[47, 108, 111, 99, 97, 108, 47, 115, 51, 47, 97, 119, 115, 52, 95, 114, 101, 113, 117, 101, 115, 116]⟩ := by kernel_rfl
def sigv4_ReadAuth.f (k : Nat) (a0 : ByteArray) : Option (ByteArray × ByteArray × List ByteArray × ByteArray × Int) := readA k a0
set_option maxRecDepth 100000 in
set_option maxHeartbeats 4000000 in
theorem sigv4_ReadAuth.calls (k : Nat) (a0 : ByteArray) (r1 : ByteArray) (r2 : ByteArray) (r3 : List ByteArray) (r4 : ByteArray) (r5 : Int) (w : World) (h : sigv4_ReadAuth.f k a0 = some (r1, r2, r3, r4, r5)) (hM : Aside0 (MaxOk w)) :
    Calls Tryz.prog 7 #[.string a0] w fun e w' => ∃ v2_ : Value, e = .returned (.tuple #[.agg #[.string r1, .string r2, v2_, .string r4], .int .i64 r5]) ∧ Kd.R Kd.string 9 w' w.heap.size (fun _ => True) v2_ r3 ∧ Below w.heap.size w w' := by
  obtain ⟨m, hm⟩ := hM.out
  have hw0 : 0 < w.heap.size := World.block_lt_of_cell? w _ hm
  unfold sigv4_ReadAuth.f readA at h
  split at h
  case isFalse => cases h
  case isTrue hl =>
  have hl1 : (bl a0).length ≤ 1000000000 := by rw [Lib.size_eq] at hl; exact hl
  have l1 : (cA1 (bl a0)).2.1.length ≤ 1000000000 := Nat.le_trans (cut_le _ _).2 hl1
  have l2 : (cA2 (bl a0)).2.1.length ≤ 1000000000 := Nat.le_trans (cut_le _ _).2 l1
  have l3 : (cA3 (bl a0)).2.1.length ≤ 1000000000 := Nat.le_trans (cut_le _ _).2 l2
  have l4 : (cA4 (bl a0)).1.length ≤ 1000000000 := Nat.le_trans (cut_le _ _).1 l3
  have hstr : str (bl a0) = .string a0 := congrArg Value.string (Lib.mk_data a0)
  obtain ⟨W0, hW0⟩ : ∃ W0, W0 = (w.alloc (.cells #[.string ⟨#[]⟩, .string ⟨#[]⟩, .slice none 0 0, .string ⟨#[]⟩] 26)).alloc (.cells #[.string a0] 9) := ⟨_, rfl⟩
  have bx0 : Boxed W0 (w.heap.size + 1) 9 (str (bl a0)) := by rw [hW0, hstr]; have h9 := heap_alloc_new (w.alloc (.cells #[.string ⟨#[]⟩, .string ⟨#[]⟩, .slice none 0 0, .string ⟨#[]⟩] 26)) (.cells #[.string a0] 9); rw [show (w.alloc (.cells #[.string ⟨#[]⟩, .string ⟨#[]⟩, .slice none 0 0, .string ⟨#[]⟩] 26)).heap.size = w.heap.size + 1 by simp] at h9; exact h9
  have rs0 : W0.heap[w.heap.size]? = some (.cells #[.string ⟨#[]⟩, .string ⟨#[]⟩, .slice none 0 0, .string ⟨#[]⟩] 26 (0, 0)) := by rw [hW0]; exact ((Fr.refl (fun _ => False) _).alloc _).heap (heap_alloc_new w _) id
  have f0 : Fr (fun _ => False) w W0 := by rw [hW0]; exact ((Fr.refl _ _).alloc _).alloc _
  have m0 := f0.cell hm id
  have z0 : W0.heap.size = w.heap.size + 2 := by rw [hW0]; simp
  have h1 := upto_any (bl a0) algA (w.heap.size + 1) m W0 bx0 m0 hl1
  have RS0 := Lib.hid rs0
  have F0 := Lib.hid f0
  clear bx0 rs0 f0 m0 hM
  cases hr : sigv4_right.f k (ba (cA2 (bl a0)).1) (ba (cA3 (bl a0)).1) (lA (bl a0)) (ba (cA4 (bl a0)).2.1) with
  | none => rw [hr] at h; cases h
  | some b =>
  rw [hr] at h
  have HR := Lib.hid hr
  clear hr
  cases b with
  | false =>
    have h : some ((⟨#[]⟩ : ByteArray), (⟨#[]⟩ : ByteArray), ([] : List ByteArray), (⟨#[]⟩ : ByteArray), (20 : Int)) = some (r1, r2, r3, r4, r5) := h
    obtain ⟨rfl, rfl, rfl, rfl, rfl⟩ : (⟨#[]⟩ : ByteArray) = r1 ∧ (⟨#[]⟩ : ByteArray) = r2 ∧ ([] : List ByteArray) = r3 ∧ (⟨#[]⟩ : ByteArray) = r4 ∧ (20 : Int) = r5 := by injection h with h; injection h with h1 h; injection h with h2 h; injection h with h3 h; injection h with h4 h5; exact ⟨h1, h2, h3, h4, h5⟩
    go_enter Tryz.func7, Tryz.ntmps7
    go_wp2_with fail
    rw [← hW0]
    clear hW0
    go_wp2_with (first
      | (go_at_call 18; refine h1.mono ?_; clear h1; rintro e w1 ⟨rfl, hb1, hF1⟩
         have z1 := hF1.size
         have F1 : Fr (fun _ => False) w w1 := F0.out.then_ hF1 (fun k h9 e => by omega)
         have hS1 : StA w w1.heap.size (str (cA1 (bl a0)).2.1) (.string ⟨#[]⟩) (.string ⟨#[]⟩) (.slice none 0 0) (.string ⟨#[]⟩) (w1.alloc (.cells #[.string ⟨#[]⟩, .string ⟨#[]⟩, .slice none 0 0, .string ⟨#[]⟩] 26)) :=
           ⟨hb1.alloc _, ((Fr.refl (fun _ => False) w1).alloc _).heap (hF1.heap RS0.out (by omega)) id, heap_alloc_new w1 _, by omega, F1.alloc _⟩
         have H2 := Lib.hid (upto_any (cA1 (bl a0)).2.1 [47] (w.heap.size + 1) m _ hS1.bx (hS1.fr.cell hm id) l1)
         have S1 := Lib.hid hS1
         clear hb1 hF1 F1 hS1 RS0)
      | (go_at_call 18; refine H2.out.mono ?_; clear H2; rintro e w2 ⟨rfl, hb2, hF2⟩
         have hS2 := S1.out.upto hb2 hF2
         obtain ⟨⟨c0, -, -, -⟩, cf⟩ := hS2.cells
         have cf0 := cf 0
         have S2 := Lib.hid (hS2.set 0 (str (cA2 (bl a0)).1) rfl)
         clear hb2 hF2 hS2 cf S1)
      | (go_at_call 20; refine (sigv4_scope.calls ⟨#[]⟩ _ _ scope_val).mono ?_; rintro e w3 ⟨rfl, hb3⟩
         have S3 := Lib.hid (S2.out.below hb3)
         have H4 := Lib.hid (upto_any (cA2 (bl a0)).2.1 scA (w.heap.size + 1) m _ S3.out.bx (S3.out.fr.cell hm id) l2)
         clear hb3 S2 c0 cf0)
      | (go_at_call 18; refine H4.out.mono ?_; clear H4; rintro e w4 ⟨rfl, hb4, hF4⟩
         have hS4 := S3.out.upto hb4 hF4
         obtain ⟨⟨-, c1, -, -⟩, cf⟩ := hS4.cells
         have cf1 := cf 1
         have S4 := Lib.hid (hS4.set 1 (str (cA3 (bl a0)).1) rfl)
         have H5 := Lib.hid (upto_any (cA3 (bl a0)).2.1 sgA (w.heap.size + 1) m _ S4.out.bx (S4.out.fr.cell hm id) l3)
         clear hb4 hF4 hS4 cf S3)
      | (go_at_call 18; refine H5.out.mono ?_; clear H5; rintro e w5 ⟨rfl, hb5, hF5⟩
         have S5 := Lib.hid (S4.out.upto hb5 hF5)
         have h9 := Tryz.strings_Split (ba (cA4 (bl a0)).1) (ba [59]) m w5 (by show (cA4 (bl a0)).1.length < _; omega) (S5.out.fr.cell hm id) (by decide)
         rw [← lA_len (bl a0)] at h9
         have H6 := Lib.hid h9
         clear h9 hb5 hF5 S4 c1 cf1)
      | (go_at_call 21; refine H6.out.mono ?_; clear H6; rintro e w6 ⟨rfl, h6⟩
         have hg5 := block_lt S5.out.ha
         have hS6 := S5.out.below (W' := w6) (by rw [h6]; exact below_alloc (Below.refl _ _) _)
         have hL6 : w6.heap[w5.heap.size]? = some (.cells ((lA (bl a0)).map Value.string).toArray 9 (0, 0)) := by rw [h6]; exact heap_alloc_new w5 _
         obtain ⟨⟨-, -, c2, -⟩, cf⟩ := hS6.cells
         have cf2 := cf 2
         obtain ⟨w7, hw7⟩ : ∃ w7, w6.setCell ⟨w1.heap.size, 2, none⟩ (.slice (some ⟨w5.heap.size, 0, none⟩) (lA (bl a0)).length (lA (bl a0)).length) = w7 := ⟨_, rfl⟩
         have hS7 := hS6.set 2 (.slice (some ⟨w5.heap.size, 0, none⟩) (lA (bl a0)).length (lA (bl a0)).length) rfl
         have hL7 := (Below.heap_setCell w6 ⟨w1.heap.size, 2, none⟩ (.slice (some ⟨w5.heap.size, 0, none⟩) (lA (bl a0)).length (lA (bl a0)).length) w5.heap.size (by show _ ≠ w1.heap.size; omega)).trans hL6
         rw [hw7] at hS7 hL7
         have cb := hS7.bx.cell
         obtain ⟨⟨-, -, -, c3⟩, cff⟩ := hS7.cells
         have cf3 := cff 3
         obtain ⟨w8, hw8⟩ : ∃ w8, w7.setCell ⟨w1.heap.size, 3, none⟩ (str (Lib.cut (cA3 (bl a0)).2.1 sgA).2.1) = w8 := ⟨_, rfl⟩
         have hS8 := hS7.set 3 (str (Lib.cut (cA3 (bl a0)).2.1 sgA).2.1) rfl
         have hL8 := (Below.heap_setCell w7 ⟨w1.heap.size, 3, none⟩ (str (Lib.cut (cA3 (bl a0)).2.1 sgA).2.1) w5.heap.size (by show _ ≠ w1.heap.size; omega)).trans hL7
         rw [hw8] at hS8 hL8
         obtain ⟨⟨d0, d1, d2, d3⟩, -⟩ := hS8.cells
         have HR8 := Lib.hid (lA_row (base := w.heap.size) (bl a0) (by have := S5.out.lt; omega) l4 hL8)
         have S8 := Lib.hid hS8
         have HL8 := Lib.hid hL8
         have LT5 := Lib.hid (show w.heap.size < w5.heap.size by have := S5.out.lt; omega)
         clear S5 hS6 hL6 cf hS7 hL7 cff hS8 hL8 h6 hg5)
      | (go_at_call 22; refine (sigv4_right.calls k (ba (cA2 (bl a0)).1) (ba (cA3 (bl a0)).1) (some ⟨w5.heap.size, 0, none⟩) (lA (bl a0)).length (lA (bl a0)) (ba (cA4 (bl a0)).2.1) _ w8 (Kd.R_reads' HR8.out).2.2 (Nat.le_refl _) HR.out).mono ?_; rintro e w9 ⟨rfl, hb9⟩
         have hS9 := S8.out.below hb9
         have HR9 := Lib.hid (Kd.R_below HR8.out hb9)
         have S9 := Lib.hid hS9
         clear d0 d1 d2 d3 cb c3 cf3 c2 cf2
         obtain ⟨⟨r0, r1, r2, r3⟩, rf⟩ := hS9.resc
         have rf0 := rf 0
         have rf1 := rf 1
         have rf2 := rf 2
         have rf3 := rf 3
         clear hS9 HR8 S8 hb9 rf))
    obtain ⟨Wf, hWf, ⟨q0, q1, q2, q3⟩, hF, -⟩ := S9.out.res (.string ⟨#[]⟩) (.string ⟨#[]⟩) (.slice none 0 0) (.string ⟨#[]⟩)
    rw [← hWf]
    clear r0 r1 r2 r3 rf0 rf1 rf2 rf3 hWf
    refine bodyPost_ret (v := .tuple #[.agg #[.string ⟨#[]⟩, .string ⟨#[]⟩, .slice none 0 0, .string ⟨#[]⟩], .int .i64 20]) (by simp [results, Tryz.results7, go_sem, q0, q1, q2, q3]) rfl ?_
    exact ⟨_, rfl, Kd.R_nil _ _ _ _ _, hF.below (Nat.le_refl _) (fun _ _ => id)⟩
  | true =>
    cases hs : sigv4_ShowAuth.f (ba (cA2 (bl a0)).1) (ba (cA3 (bl a0)).1) (lA (bl a0)) (ba (cA4 (bl a0)).2.1) with
    | none => rw [hs] at h; cases h
    | some t =>
    rw [hs] at h
    have HS := Lib.hid hs
    clear hs
    have h : (if t.toList = a0.toList then some (ba (cA2 (bl a0)).1, ba (cA3 (bl a0)).1, lA (bl a0), ba (cA4 (bl a0)).2.1, (0 : Int)) else some ((⟨#[]⟩ : ByteArray), (⟨#[]⟩ : ByteArray), ([] : List ByteArray), (⟨#[]⟩ : ByteArray), (20 : Int))) = some (r1, r2, r3, r4, r5) := h
    by_cases ht : t.toList = a0.toList
    rotate_left
    · rw [if_neg ht] at h
      obtain ⟨rfl, rfl, rfl, rfl, rfl⟩ : (⟨#[]⟩ : ByteArray) = r1 ∧ (⟨#[]⟩ : ByteArray) = r2 ∧ ([] : List ByteArray) = r3 ∧ (⟨#[]⟩ : ByteArray) = r4 ∧ (20 : Int) = r5 := by injection h with h; injection h with h1 h; injection h with h2 h; injection h with h3 h; injection h with h4 h5; exact ⟨h1, h2, h3, h4, h5⟩
      have hq : (t.toList == a0.toList) = false := beq_eq_false_iff_ne.2 ht
      clear ht h
      go_enter Tryz.func7, Tryz.ntmps7
      go_wp2_with fail
      rw [← hW0]
      clear hW0
      go_wp2_with (first
        | (go_at_call 18; refine h1.mono ?_; clear h1; rintro e w1 ⟨rfl, hb1, hF1⟩
           have z1 := hF1.size
           have F1 : Fr (fun _ => False) w w1 := F0.out.then_ hF1 (fun k h9 e => by omega)
           have hS1 : StA w w1.heap.size (str (cA1 (bl a0)).2.1) (.string ⟨#[]⟩) (.string ⟨#[]⟩) (.slice none 0 0) (.string ⟨#[]⟩) (w1.alloc (.cells #[.string ⟨#[]⟩, .string ⟨#[]⟩, .slice none 0 0, .string ⟨#[]⟩] 26)) :=
             ⟨hb1.alloc _, ((Fr.refl (fun _ => False) w1).alloc _).heap (hF1.heap RS0.out (by omega)) id, heap_alloc_new w1 _, by omega, F1.alloc _⟩
           have H2 := Lib.hid (upto_any (cA1 (bl a0)).2.1 [47] (w.heap.size + 1) m _ hS1.bx (hS1.fr.cell hm id) l1)
           have S1 := Lib.hid hS1
           clear hb1 hF1 F1 hS1 RS0)
        | (go_at_call 18; refine H2.out.mono ?_; clear H2; rintro e w2 ⟨rfl, hb2, hF2⟩
           have hS2 := S1.out.upto hb2 hF2
           obtain ⟨⟨c0, -, -, -⟩, cf⟩ := hS2.cells
           have cf0 := cf 0
           have S2 := Lib.hid (hS2.set 0 (str (cA2 (bl a0)).1) rfl)
           clear hb2 hF2 hS2 cf S1)
        | (go_at_call 20; refine (sigv4_scope.calls ⟨#[]⟩ _ _ scope_val).mono ?_; rintro e w3 ⟨rfl, hb3⟩
           have S3 := Lib.hid (S2.out.below hb3)
           have H4 := Lib.hid (upto_any (cA2 (bl a0)).2.1 scA (w.heap.size + 1) m _ S3.out.bx (S3.out.fr.cell hm id) l2)
           clear hb3 S2 c0 cf0)
        | (go_at_call 18; refine H4.out.mono ?_; clear H4; rintro e w4 ⟨rfl, hb4, hF4⟩
           have hS4 := S3.out.upto hb4 hF4
           obtain ⟨⟨-, c1, -, -⟩, cf⟩ := hS4.cells
           have cf1 := cf 1
           have S4 := Lib.hid (hS4.set 1 (str (cA3 (bl a0)).1) rfl)
           have H5 := Lib.hid (upto_any (cA3 (bl a0)).2.1 sgA (w.heap.size + 1) m _ S4.out.bx (S4.out.fr.cell hm id) l3)
           clear hb4 hF4 hS4 cf S3)
        | (go_at_call 18; refine H5.out.mono ?_; clear H5; rintro e w5 ⟨rfl, hb5, hF5⟩
           have S5 := Lib.hid (S4.out.upto hb5 hF5)
           have h9 := Tryz.strings_Split (ba (cA4 (bl a0)).1) (ba [59]) m w5 (by show (cA4 (bl a0)).1.length < _; omega) (S5.out.fr.cell hm id) (by decide)
           rw [← lA_len (bl a0)] at h9
           have H6 := Lib.hid h9
           clear h9 hb5 hF5 S4 c1 cf1)
        | (go_at_call 21; refine H6.out.mono ?_; clear H6; rintro e w6 ⟨rfl, h6⟩
           have hg5 := block_lt S5.out.ha
           have hS6 := S5.out.below (W' := w6) (by rw [h6]; exact below_alloc (Below.refl _ _) _)
           have hL6 : w6.heap[w5.heap.size]? = some (.cells ((lA (bl a0)).map Value.string).toArray 9 (0, 0)) := by rw [h6]; exact heap_alloc_new w5 _
           obtain ⟨⟨-, -, c2, -⟩, cf⟩ := hS6.cells
           have cf2 := cf 2
           obtain ⟨w7, hw7⟩ : ∃ w7, w6.setCell ⟨w1.heap.size, 2, none⟩ (.slice (some ⟨w5.heap.size, 0, none⟩) (lA (bl a0)).length (lA (bl a0)).length) = w7 := ⟨_, rfl⟩
           have hS7 := hS6.set 2 (.slice (some ⟨w5.heap.size, 0, none⟩) (lA (bl a0)).length (lA (bl a0)).length) rfl
           have hL7 := (Below.heap_setCell w6 ⟨w1.heap.size, 2, none⟩ (.slice (some ⟨w5.heap.size, 0, none⟩) (lA (bl a0)).length (lA (bl a0)).length) w5.heap.size (by show _ ≠ w1.heap.size; omega)).trans hL6
           rw [hw7] at hS7 hL7
           have cb := hS7.bx.cell
           obtain ⟨⟨-, -, -, c3⟩, cff⟩ := hS7.cells
           have cf3 := cff 3
           obtain ⟨w8, hw8⟩ : ∃ w8, w7.setCell ⟨w1.heap.size, 3, none⟩ (str (Lib.cut (cA3 (bl a0)).2.1 sgA).2.1) = w8 := ⟨_, rfl⟩
           have hS8 := hS7.set 3 (str (Lib.cut (cA3 (bl a0)).2.1 sgA).2.1) rfl
           have hL8 := (Below.heap_setCell w7 ⟨w1.heap.size, 3, none⟩ (str (Lib.cut (cA3 (bl a0)).2.1 sgA).2.1) w5.heap.size (by show _ ≠ w1.heap.size; omega)).trans hL7
           rw [hw8] at hS8 hL8
           obtain ⟨⟨d0, d1, d2, d3⟩, -⟩ := hS8.cells
           have HR8 := Lib.hid (lA_row (base := w.heap.size) (bl a0) (by have := S5.out.lt; omega) l4 hL8)
           have S8 := Lib.hid hS8
           have HL8 := Lib.hid hL8
           have LT5 := Lib.hid (show w.heap.size < w5.heap.size by have := S5.out.lt; omega)
           clear S5 hS6 hL6 cf hS7 hL7 cff hS8 hL8 h6 hg5)
        | (go_at_call 22; refine (sigv4_right.calls k (ba (cA2 (bl a0)).1) (ba (cA3 (bl a0)).1) (some ⟨w5.heap.size, 0, none⟩) (lA (bl a0)).length (lA (bl a0)) (ba (cA4 (bl a0)).2.1) _ w8 (Kd.R_reads' HR8.out).2.2 (Nat.le_refl _) HR.out).mono ?_; rintro e w9 ⟨rfl, hb9⟩
           have hS9 := S8.out.below hb9
           have HR9 := Lib.hid (Kd.R_below HR8.out hb9)
           have S9 := Lib.hid hS9
           clear d0 d1 d2 d3 cb c3 cf3 c2 cf2
           obtain ⟨⟨e0, e1, e2, e3⟩, -⟩ := hS9.cells
           have HL9 := Lib.hid ((Fr.of_below0 hb9).heap HL8.out id)
           clear hS9 HR8 S8 hb9 HL8)
        | (go_at_call 10; refine (sigv4_ShowAuth.calls (ba (cA2 (bl a0)).1) (ba (cA3 (bl a0)).1) (some ⟨w5.heap.size, 0, none⟩) (lA (bl a0)).length (lA (bl a0)) (ba (cA4 (bl a0)).2.1) t w9 (Kd.R_reads' HR9.out).2.2 (Nat.le_refl _) HS.out).mono ?_; rintro e w10 ⟨rfl, hb10⟩
           have hS10 := S9.out.below hb10
           have S10 := Lib.hid hS10
           have HL10 := Lib.hid ((Fr.of_below0 hb10).heap HL9.out id)
           obtain ⟨⟨r0, r1, r2, r3⟩, rf⟩ := hS10.resc
           obtain ⟨⟨g0, g1, g2, g3⟩, -⟩ := hS10.cells
           have rf0 := rf 0
           have rf1 := rf 1
           have rf2 := rf 2
           have rf3 := rf 3
           clear hS10 HR9 S9 hb10 rf HL9 e0 e1 e2 e3))
      obtain ⟨Wf, hWf, ⟨q0, q1, q2, q3⟩, hF, -⟩ := S10.out.res (.string ⟨#[]⟩) (.string ⟨#[]⟩) (.slice none 0 0) (.string ⟨#[]⟩)
      rw [← hWf]
      clear r0 r1 r2 r3 rf0 rf1 rf2 rf3 hWf g0 g1 g2 g3
      refine bodyPost_ret (v := .tuple #[.agg #[.string ⟨#[]⟩, .string ⟨#[]⟩, .slice none 0 0, .string ⟨#[]⟩], .int .i64 20]) (by simp [results, Tryz.results7, go_sem, q0, q1, q2, q3]) rfl ?_
      exact ⟨_, rfl, Kd.R_nil _ _ _ _ _, hF.below (Nat.le_refl _) (fun _ _ => id)⟩
    rw [if_pos ht] at h
    obtain ⟨rfl, rfl, rfl, rfl, rfl⟩ : ba (cA2 (bl a0)).1 = r1 ∧ ba (cA3 (bl a0)).1 = r2 ∧ lA (bl a0) = r3 ∧ ba (cA4 (bl a0)).2.1 = r4 ∧ (0 : Int) = r5 := by injection h with h; injection h with h1 h; injection h with h2 h; injection h with h3 h; injection h with h4 h5; exact ⟨h1, h2, h3, h4, h5⟩
    have hq : (t.toList == a0.toList) = true := beq_iff_eq.2 ht
    clear ht h
    go_enter Tryz.func7, Tryz.ntmps7
    go_wp2_with fail
    rw [← hW0]
    clear hW0
    go_wp2_with (first
      | (go_at_call 18; refine h1.mono ?_; clear h1; rintro e w1 ⟨rfl, hb1, hF1⟩
         have z1 := hF1.size
         have F1 : Fr (fun _ => False) w w1 := F0.out.then_ hF1 (fun k h9 e => by omega)
         have hS1 : StA w w1.heap.size (str (cA1 (bl a0)).2.1) (.string ⟨#[]⟩) (.string ⟨#[]⟩) (.slice none 0 0) (.string ⟨#[]⟩) (w1.alloc (.cells #[.string ⟨#[]⟩, .string ⟨#[]⟩, .slice none 0 0, .string ⟨#[]⟩] 26)) :=
           ⟨hb1.alloc _, ((Fr.refl (fun _ => False) w1).alloc _).heap (hF1.heap RS0.out (by omega)) id, heap_alloc_new w1 _, by omega, F1.alloc _⟩
         have H2 := Lib.hid (upto_any (cA1 (bl a0)).2.1 [47] (w.heap.size + 1) m _ hS1.bx (hS1.fr.cell hm id) l1)
         have S1 := Lib.hid hS1
         clear hb1 hF1 F1 hS1 RS0)
      | (go_at_call 18; refine H2.out.mono ?_; clear H2; rintro e w2 ⟨rfl, hb2, hF2⟩
         have hS2 := S1.out.upto hb2 hF2
         obtain ⟨⟨c0, -, -, -⟩, cf⟩ := hS2.cells
         have cf0 := cf 0
         have S2 := Lib.hid (hS2.set 0 (str (cA2 (bl a0)).1) rfl)
         clear hb2 hF2 hS2 cf S1)
      | (go_at_call 20; refine (sigv4_scope.calls ⟨#[]⟩ _ _ scope_val).mono ?_; rintro e w3 ⟨rfl, hb3⟩
         have S3 := Lib.hid (S2.out.below hb3)
         have H4 := Lib.hid (upto_any (cA2 (bl a0)).2.1 scA (w.heap.size + 1) m _ S3.out.bx (S3.out.fr.cell hm id) l2)
         clear hb3 S2 c0 cf0)
      | (go_at_call 18; refine H4.out.mono ?_; clear H4; rintro e w4 ⟨rfl, hb4, hF4⟩
         have hS4 := S3.out.upto hb4 hF4
         obtain ⟨⟨-, c1, -, -⟩, cf⟩ := hS4.cells
         have cf1 := cf 1
         have S4 := Lib.hid (hS4.set 1 (str (cA3 (bl a0)).1) rfl)
         have H5 := Lib.hid (upto_any (cA3 (bl a0)).2.1 sgA (w.heap.size + 1) m _ S4.out.bx (S4.out.fr.cell hm id) l3)
         clear hb4 hF4 hS4 cf S3)
      | (go_at_call 18; refine H5.out.mono ?_; clear H5; rintro e w5 ⟨rfl, hb5, hF5⟩
         have S5 := Lib.hid (S4.out.upto hb5 hF5)
         have h9 := Tryz.strings_Split (ba (cA4 (bl a0)).1) (ba [59]) m w5 (by show (cA4 (bl a0)).1.length < _; omega) (S5.out.fr.cell hm id) (by decide)
         rw [← lA_len (bl a0)] at h9
         have H6 := Lib.hid h9
         clear h9 hb5 hF5 S4 c1 cf1)
      | (go_at_call 21; refine H6.out.mono ?_; clear H6; rintro e w6 ⟨rfl, h6⟩
         have hg5 := block_lt S5.out.ha
         have hS6 := S5.out.below (W' := w6) (by rw [h6]; exact below_alloc (Below.refl _ _) _)
         have hL6 : w6.heap[w5.heap.size]? = some (.cells ((lA (bl a0)).map Value.string).toArray 9 (0, 0)) := by rw [h6]; exact heap_alloc_new w5 _
         obtain ⟨⟨-, -, c2, -⟩, cf⟩ := hS6.cells
         have cf2 := cf 2
         obtain ⟨w7, hw7⟩ : ∃ w7, w6.setCell ⟨w1.heap.size, 2, none⟩ (.slice (some ⟨w5.heap.size, 0, none⟩) (lA (bl a0)).length (lA (bl a0)).length) = w7 := ⟨_, rfl⟩
         have hS7 := hS6.set 2 (.slice (some ⟨w5.heap.size, 0, none⟩) (lA (bl a0)).length (lA (bl a0)).length) rfl
         have hL7 := (Below.heap_setCell w6 ⟨w1.heap.size, 2, none⟩ (.slice (some ⟨w5.heap.size, 0, none⟩) (lA (bl a0)).length (lA (bl a0)).length) w5.heap.size (by show _ ≠ w1.heap.size; omega)).trans hL6
         rw [hw7] at hS7 hL7
         have cb := hS7.bx.cell
         obtain ⟨⟨-, -, -, c3⟩, cff⟩ := hS7.cells
         have cf3 := cff 3
         obtain ⟨w8, hw8⟩ : ∃ w8, w7.setCell ⟨w1.heap.size, 3, none⟩ (str (Lib.cut (cA3 (bl a0)).2.1 sgA).2.1) = w8 := ⟨_, rfl⟩
         have hS8 := hS7.set 3 (str (Lib.cut (cA3 (bl a0)).2.1 sgA).2.1) rfl
         have hL8 := (Below.heap_setCell w7 ⟨w1.heap.size, 3, none⟩ (str (Lib.cut (cA3 (bl a0)).2.1 sgA).2.1) w5.heap.size (by show _ ≠ w1.heap.size; omega)).trans hL7
         rw [hw8] at hS8 hL8
         obtain ⟨⟨d0, d1, d2, d3⟩, -⟩ := hS8.cells
         have HR8 := Lib.hid (lA_row (base := w.heap.size) (bl a0) (by have := S5.out.lt; omega) l4 hL8)
         have S8 := Lib.hid hS8
         have HL8 := Lib.hid hL8
         have LT5 := Lib.hid (show w.heap.size < w5.heap.size by have := S5.out.lt; omega)
         clear S5 hS6 hL6 cf hS7 hL7 cff hS8 hL8 h6 hg5)
      | (go_at_call 22; refine (sigv4_right.calls k (ba (cA2 (bl a0)).1) (ba (cA3 (bl a0)).1) (some ⟨w5.heap.size, 0, none⟩) (lA (bl a0)).length (lA (bl a0)) (ba (cA4 (bl a0)).2.1) _ w8 (Kd.R_reads' HR8.out).2.2 (Nat.le_refl _) HR.out).mono ?_; rintro e w9 ⟨rfl, hb9⟩
         have hS9 := S8.out.below hb9
         have HR9 := Lib.hid (Kd.R_below HR8.out hb9)
         have S9 := Lib.hid hS9
         clear d0 d1 d2 d3 cb c3 cf3 c2 cf2
         obtain ⟨⟨e0, e1, e2, e3⟩, -⟩ := hS9.cells
         have HL9 := Lib.hid ((Fr.of_below0 hb9).heap HL8.out id)
         clear hS9 HR8 S8 hb9 HL8)
      | (go_at_call 10; refine (sigv4_ShowAuth.calls (ba (cA2 (bl a0)).1) (ba (cA3 (bl a0)).1) (some ⟨w5.heap.size, 0, none⟩) (lA (bl a0)).length (lA (bl a0)) (ba (cA4 (bl a0)).2.1) t w9 (Kd.R_reads' HR9.out).2.2 (Nat.le_refl _) HS.out).mono ?_; rintro e w10 ⟨rfl, hb10⟩
         have hS10 := S9.out.below hb10
         have S10 := Lib.hid hS10
         have HL10 := Lib.hid ((Fr.of_below0 hb10).heap HL9.out id)
         obtain ⟨⟨r0, r1, r2, r3⟩, rf⟩ := hS10.resc
         obtain ⟨⟨g0, g1, g2, g3⟩, -⟩ := hS10.cells
         have rf0 := rf 0
         have rf1 := rf 1
         have rf2 := rf 2
         have rf3 := rf 3
         clear hS10 HR9 S9 hb10 rf HL9 e0 e1 e2 e3))
    obtain ⟨Wf, hWf, ⟨q0, q1, q2, q3⟩, hF, hK⟩ := S10.out.res (str (cA2 (bl a0)).1) (str (cA3 (bl a0)).1) (.slice (some ⟨w5.heap.size, 0, none⟩) (lA (bl a0)).length (lA (bl a0)).length) (str (Lib.cut (cA3 (bl a0)).2.1 sgA).2.1)
    rw [← hWf]
    clear r0 r1 r2 r3 rf0 rf1 rf2 rf3 hWf g0 g1 g2 g3
    refine bodyPost_ret (v := .tuple #[.agg #[str (cA2 (bl a0)).1, str (cA3 (bl a0)).1, .slice (some ⟨w5.heap.size, 0, none⟩) (lA (bl a0)).length (lA (bl a0)).length, str (Lib.cut (cA3 (bl a0)).2.1 sgA).2.1], .int .i64 0]) (by simp [results, Tryz.results7, go_sem, q0, q1, q2, q3]) rfl ?_
    exact ⟨_, rfl, lA_row (bl a0) (Nat.le_of_lt LT5.out) l4 ((hK _ (Nat.ne_of_gt LT5.out)).trans HL10.out), hF.below (Nat.le_refl _) (fun _ _ => id)⟩
def clock_Read.f (a0 : ByteArray) : Option (Int × Int) := some (readZ (bl a0))
set_option maxRecDepth 100000 in
set_option maxHeartbeats 4000000 in
theorem clock_Read.calls (a0 : ByteArray) (r1 : Int) (r2 : Int) (w : World) (h : clock_Read.f a0 = some (r1, r2)) :
  Calls Tryz.prog 35 #[.string a0] w fun e w' => e = .returned (.tuple #[.int .u64 r1, .int .i64 r2]) ∧ Below w.heap.size w w' := by
 have e := Option.some.inj h
 have := clk_read (bl a0) w
 rw [e] at this
 rwa [show (⟨(bl a0).toArray⟩ : ByteArray) = a0 from Lib.mk_data a0] at this
def slices_Index_string_string.l0 : Nat → List ByteArray → ByteArray → Int → Int → Option (Int)
 | 0, _, _, _, _ => none
 | k + 1, x0, x1, x7, x8 => if x8 < x7 then (if 0 ≤ x8 then (if x8 < (x0.length : Int) then (if x1.toList = (rdOf ByteArray.empty x0 x8).toList then (some x8) else (slices_Index_string_string.l0 k x0 x1 x7 (wrap64 (x8 + 1)))) else (none)) else (none)) else (some (-1))
def slices_Index_string_string.f (k : Nat) (l0 : List ByteArray) (a1 : ByteArray) : Option (Int) := slices_Index_string_string.l0 k l0 a1 (l0.length : Int) 0
set_option maxHeartbeats 8000000 in
set_option maxRecDepth 100000 in
theorem slices_Index_string_string.calls (k : Nat) (A0 : Option Addr) (c0 : Nat) (l0 : List ByteArray) (a1 : ByteArray) (r : Int) (w : World) (hr0 : Kd.C Kd.string w A0 l0.length l0) (hc0 : l0.length ≤ c0) (h : slices_Index_string_string.f k l0 a1 = some r) :
  Calls Tryz.prog 68 #[.slice A0 l0.length c0, .string a1] w fun e w' => e = .returned (.int .i64 r) ∧ Drawn0 w w' := by
 have HR0 := Aside0.mk hr0
 have HC0 := Aside0.mk hc0
 clear hr0 hc0
 have H : (slices_Index_string_string.l0 k l0 a1 (l0.length : Int) 0) = some r := h
 clear h
 have H' := Aside0.mk H
 clear H
 go_enter Tryz.func68, Tryz.ntmps68
 go_wp2
 go_loopg [8] k (fun kq v8 w' => ∃ (x8_1 : Int), v8 = .int .i64 x8_1 ∧ Aside0 (slices_Index_string_string.l0 kq l0 a1 (l0.length : Int) x8_1 = some r) ∧ Aside0 (kq ≤ k) ∧ Drawn0 w w')
 case atStart => exact ⟨(0), (by first | rfl | (simp; done) | (simp [*]; done)), H', ⟨Nat.le_refl _⟩, by repeat (first | exact Drawn0.refl _ | apply Drawn0.step)⟩
 case round =>
  clear H'
  try clear p2
  obtain ⟨x8_1, rfl, HA, HK1, ⟨m1, rfl⟩⟩ := hrel
  cases gk with
  | zero => exact absurd HA.out (by simp [slices_Index_string_string.l0])
  | succ k1 =>
   have H := HA.out
   clear HA
   simp only [slices_Index_string_string.l0] at H
   by_cases c3 : x8_1 < (l0.length : Int)
   rotate_left
   ·rw [if_neg c3] at H
    have c3b0 : decide (x8_1 < (l0.length : Int)) = false := decide_eq_false c3
    clear c3
    obtain rfl := Option.some.inj H
    go_wp2
    go_ret
    exact ⟨by first | rfl | (simp; done) | (simp [*]; done), by repeat (first | exact Drawn0.refl _ | apply Drawn0.step)⟩
   rw [if_pos c3] at H
   have c3b0 : decide (x8_1 < (l0.length : Int)) = true := decide_eq_true c3
   clear c3
   by_cases c4 : 0 ≤ x8_1
   rotate_left
   ·rw [if_neg c4] at H
    exact absurd H (by simp)
   rw [if_pos c4] at H
   have c4b0 : decide (0 ≤ x8_1) = true := decide_eq_true c4
   clear c4
   by_cases c5 : x8_1 < (l0.length : Int)
   rotate_left
   ·rw [if_neg c5] at H
    exact absurd H (by simp)
   rw [if_pos c5] at H
   have c5b0 : decide (x8_1 < (l0.length : Int)) = true := decide_eq_true c5
   clear c5
   by_cases c6 : a1.toList = (rdOf ByteArray.empty l0 x8_1).toList
   ·rw [if_pos c6] at H
    have c6b0 : (a1.toList == (rdOf ByteArray.empty l0 x8_1).toList) = true := beq_iff_eq.mpr c6
    have c6b1 : (a1.toList != (rdOf ByteArray.empty l0 x8_1).toList) = false := bne_eq_false_iff_eq.mpr c6
    clear c6
    obtain rfl := Option.some.inj H
    have p201 : 0 ≤ (x8_1 : Int) := ode_
    have q201 : x8_1 < (l0.length : Int) := ode_
    obtain ⟨ad201, e201, hx201_0⟩ := Kd.at_string HR0.out x8_1 p201 q201
    cases e201
    replace p201 := eq_true p201
    replace q201 := eq_true q201
    go_wp2
    go_ret
    exact ⟨by first | rfl | (simp; done) | (simp [*]; done), by repeat (first | exact Drawn0.refl _ | apply Drawn0.step)⟩
   rw [if_neg c6] at H
   have c6b0 : (a1.toList == (rdOf ByteArray.empty l0 x8_1).toList) = false := beq_eq_false_iff_ne.mpr c6
   have c6b1 : (a1.toList != (rdOf ByteArray.empty l0 x8_1).toList) = true := bne_iff_ne.mpr c6
   have H' := Aside0.mk H
   clear H
   have p201 : 0 ≤ (x8_1 : Int) := ode_
   have q201 : x8_1 < (l0.length : Int) := ode_
   obtain ⟨ad201, e201, hx201_0⟩ := Kd.at_string HR0.out x8_1 p201 q201
   cases e201
   replace p201 := eq_true p201
   replace q201 := eq_true q201
   go_wp2
   go_roundg k1
   case measure => have := HK1.out; omega
   case rel => exact ⟨(wrap64 (x8_1 + 1)), (by first | rfl | (simp; done) | (simp [*]; done)), H', ⟨by have := HK1.out; omega⟩, by repeat (first | exact Drawn0.refl _ | apply Drawn0.step)⟩
def slices_Contains_string_string.f (k : Nat) (l0 : List ByteArray) (a1 : ByteArray) : Option (Bool) := (slices_Index_string_string.f k l0 a1).bind fun t202 => (some (decide (t202 ≥ 0)))
set_option maxHeartbeats 8000000 in
set_option maxRecDepth 100000 in
theorem slices_Contains_string_string.calls (k : Nat) (A0 : Option Addr) (c0 : Nat) (l0 : List ByteArray) (a1 : ByteArray) (r : Bool) (w : World) (hr0 : Kd.C Kd.string w A0 l0.length l0) (hc0 : l0.length ≤ c0) (h : slices_Contains_string_string.f k l0 a1 = some r) :
  Calls Tryz.prog 37 #[.slice A0 l0.length c0, .string a1] w fun e w' => e = .returned (.bool r) ∧ Drawn0 w w' := by
 have HR0 := Aside0.mk hr0
 have HC0 := Aside0.mk hc0
 clear hr0 hc0
 have H : ((slices_Index_string_string.f k l0 a1).bind fun t202 => (some (decide (t202 ≥ 0)))) = some r := h
 clear h
 replace H := Option.bind_eq_some_iff.mp H
 obtain ⟨t202, A30, H⟩ := H
 replace H : (some (decide (t202 ≥ 0))) = some r := H
 have A3 := Aside0.mk A30
 clear A30
 obtain rfl := Option.some.inj H
 go_enter Tryz.func37, Tryz.ntmps37
 go_wp2_with (first | ((with_reducible refine gate_callee (f := 68) rfl ?_); refine goesL_ (some 7) rfl rfl Tryz.func68 (by kernel_rfl) rfl #[.slice A0 l0.length c0, .string a1] rfl (by (try simp only [List.map_toArray, List.map_cons, List.map_nil]); first | done | rfl | (simp only [List.length_drop, List.length_take]; rfl)) ?_; (with_reducible refine (slices_Index_string_string.calls _ _ _ _ _ _ _ ?side1 ?side2 A3.out).mono ?_); (case side1 => repeat (first | exact HR0.out | (with_reducible refine Kd.C_alloc ?_ _) | (with_reducible refine Kd.C_drewN ?_ _) | (with_reducible refine Kd.C_drew ?_))); (case side2 => exact HC0.out); rintro e w' ⟨rfl, ⟨nd, rfl⟩⟩; refine ⟨_, rfl, ?_⟩))
 go_ret
 exact ⟨by first | rfl | (simp; done) | (simp [*]; done), by repeat (first | exact Drawn0.refl _ | apply Drawn0.step)⟩
def clock_Near.f (a0 : Int) (a1 : Int) (a2 : Int) : Option (Bool) := some (decide ((IntKind.u64.wrap ((mx a0 a1) - (mn a0 a1))) ≤ a2))
set_option maxHeartbeats 8000000 in
set_option maxRecDepth 100000 in
theorem clock_Near.calls (a0 : Int) (a1 : Int) (a2 : Int) (r : Bool) (w : World) (h : clock_Near.f a0 a1 a2 = some r) :
  Calls Tryz.prog 38 #[.int .u64 a0, .int .u64 a1, .int .u64 a2] w fun e w' => e = .returned (.bool r) ∧ Below w.heap.size w w' := by
 have HB := Aside0.mk (Below.refl w.heap.size w)
 have H : (some (decide ((IntKind.u64.wrap ((mx a0 a1) - (mn a0 a1))) ≤ a2))) = some r := h
 clear h
 obtain ⟨ji4, hji4⟩ : ∃ j_ : Int, (mx a0 a1) = j_ := ⟨_, rfl⟩
 replace H : (some (decide ((IntKind.u64.wrap ((ji4) - (mn a0 a1))) ≤ a2))) = some r := by first | (rw [hji4] at H; exact H) | (simp only [hji4] at H ⊢; exact H)
 have hji4_ : (if a0 < a1 then a1 else a0) = ji4 := hji4
 obtain ⟨ji5, hji5⟩ : ∃ j_ : Int, (mn a0 a1) = j_ := ⟨_, rfl⟩
 replace H : (some (decide ((IntKind.u64.wrap ((ji4) - (ji5))) ≤ a2))) = some r := by first | (rw [hji5] at H; exact H) | (simp only [hji5] at H ⊢; exact H)
 have hji5_ : (if a1 < a0 then a1 else a0) = ji5 := hji5
 obtain rfl := Option.some.inj H
 go_enter Tryz.func38, Tryz.ntmps38
 go_wp2
 go_ret
 exact ⟨by first | rfl | (simp [errW_none, errW_some] <;> rfl) | (simp only [← hji4, ← hji5]; first | rfl | (simp [errW_none, errW_some] <;> rfl)) | (simp [*, errW_none, errW_some] <;> rfl), hb0_⟩
def digest_Same.l0 : Nat → List Int → Int → List Int → Int → Int → Option (Bool)
 | 0, _, _, _, _, _ => none
 | k + 1, x1, x5, x13, x14, x15 => if x15 < x14 then (if 0 ≤ x15 then (if x15 < (x13.length : Int) then (if x15 < (x1.length : Int) then (digest_Same.l0 k x1 (Go.bits .or .u8 x5 (Go.bits .xor .u8 (rd x13 x15) (rd x1 x15))) x13 x14 (wrap64 (x15 + 1))) else (none)) else (none)) else (none)) else (some (x5 == 0))
def digest_Same.f (k : Nat) (l0 : List Int) (l1 : List Int) : Option (Bool) := if (l0.length : Int) = (l1.length : Int) then (digest_Same.l0 k l1 0 l0 (l0.length : Int) 0) else (some false)
set_option maxHeartbeats 8000000 in
set_option maxRecDepth 100000 in
theorem digest_Same.calls (k : Nat) (A0 : Option Addr) (c0 : Nat) (l0 : List Int) (A1 : Option Addr) (c1 : Nat) (l1 : List Int) (r : Bool) (w : World) (hr0 : Kd.C (Kd.int .u8) w A0 l0.length l0) (hc0 : l0.length ≤ c0) (hr1 : Kd.C (Kd.int .u8) w A1 l1.length l1) (hc1 : l1.length ≤ c1) (h : digest_Same.f k l0 l1 = some r) :
  Calls Tryz.prog 39 #[.slice A0 l0.length c0, .slice A1 l1.length c1] w fun e w' => e = .returned (.bool r) ∧ Drawn0 w w' := by
 have HR0 := Aside0.mk hr0
 have HC0 := Aside0.mk hc0
 clear hr0 hc0
 have HR1 := Aside0.mk hr1
 have HC1 := Aside0.mk hc1
 clear hr1 hc1
 have H : (if (l0.length : Int) = (l1.length : Int) then (digest_Same.l0 k l1 0 l0 (l0.length : Int) 0) else (some false)) = some r := h
 clear h
 by_cases c3 : (l0.length : Int) = (l1.length : Int)
 rotate_left
 ·rw [if_neg c3] at H
  have c3b0 : ((l0.length : Int) == (l1.length : Int)) = false := beq_eq_false_iff_ne.mpr c3
  have c3b1 : ((l0.length : Int) != (l1.length : Int)) = true := bne_iff_ne.mpr c3
  have c3b2 : (l0.length == l1.length) = false := by first | simpa using c3 | (simp at c3 ⊢; omega)
  obtain rfl := Option.some.inj H
  go_enter Tryz.func39, Tryz.ntmps39
  go_wp2
  go_ret
  exact ⟨by first | rfl | (simp; done) | (simp [*]; done), by repeat (first | exact Drawn0.refl _ | apply Drawn0.step)⟩
 rw [if_pos c3] at H
 have c3b0 : ((l0.length : Int) == (l1.length : Int)) = true := beq_iff_eq.mpr c3
 have c3b1 : ((l0.length : Int) != (l1.length : Int)) = false := bne_eq_false_iff_eq.mpr c3
 have c3b2 : (l0.length == l1.length) = true := by first | simpa using c3 | (simp at c3 ⊢; omega)
 clear c3
 have H' := Aside0.mk H
 clear H
 go_enter Tryz.func39, Tryz.ntmps39
 go_wp2
 go_loopg [5, 15] k (fun kq v5 v15 w' => ∃ (x5_1 : Int) (x15_1 : Int), v5 = .int .u8 x5_1 ∧ v15 = .int .i64 x15_1 ∧ Aside0 (digest_Same.l0 kq l1 x5_1 l0 (l0.length : Int) x15_1 = some r) ∧ Aside0 (kq ≤ k) ∧ Drawn0 w w')
 case atStart => exact ⟨(0), (0), (by first | rfl | (simp; done) | (simp [*]; done)), (by first | rfl | (simp; done) | (simp [*]; done)), H', ⟨Nat.le_refl _⟩, by repeat (first | exact Drawn0.refl _ | apply Drawn0.step)⟩
 case round =>
  clear H'
  try clear c1
  try clear p2
  try clear c3
  try clear c3b0
  try clear c3b1
  try clear c3b2
  obtain ⟨x5_1, x15_1, rfl, rfl, HA, HK1, ⟨m1, rfl⟩⟩ := hrel
  cases gk with
  | zero => exact absurd HA.out (by simp [digest_Same.l0])
  | succ k1 =>
   have H := HA.out
   clear HA
   simp only [digest_Same.l0] at H
   by_cases c4 : x15_1 < (l0.length : Int)
   rotate_left
   ·rw [if_neg c4] at H
    have c4b0 : decide (x15_1 < (l0.length : Int)) = false := decide_eq_false c4
    clear c4
    obtain rfl := Option.some.inj H
    go_wp2
    go_ret
    exact ⟨by first | rfl | (simp; done) | (simp [*]; done), by repeat (first | exact Drawn0.refl _ | apply Drawn0.step)⟩
   rw [if_pos c4] at H
   have c4b0 : decide (x15_1 < (l0.length : Int)) = true := decide_eq_true c4
   clear c4
   by_cases c5 : 0 ≤ x15_1
   rotate_left
   ·rw [if_neg c5] at H
    exact absurd H (by simp)
   rw [if_pos c5] at H
   have c5b0 : decide (0 ≤ x15_1) = true := decide_eq_true c5
   clear c5
   by_cases c6 : x15_1 < (l0.length : Int)
   rotate_left
   ·rw [if_neg c6] at H
    exact absurd H (by simp)
   rw [if_pos c6] at H
   have c6b0 : decide (x15_1 < (l0.length : Int)) = true := decide_eq_true c6
   clear c6
   by_cases c7 : x15_1 < (l1.length : Int)
   rotate_left
   ·rw [if_neg c7] at H
    exact absurd H (by simp)
   rw [if_pos c7] at H
   have c7b0 : decide (x15_1 < (l1.length : Int)) = true := decide_eq_true c7
   clear c7
   have H' := Aside0.mk H
   clear H
   have p203 : 0 ≤ (x15_1 : Int) := ode_
   have q203 : x15_1 < (l0.length : Int) := ode_
   obtain ⟨ad203, e203, hx203_0⟩ := Kd.at_int HR0.out x15_1 p203 q203
   cases e203
   replace p203 := eq_true p203
   replace q203 := eq_true q203
   have p204 : 0 ≤ (x15_1 : Int) := ode_
   have q204 : x15_1 < (l1.length : Int) := ode_
   obtain ⟨ad204, e204, hx204_0⟩ := Kd.at_int HR1.out x15_1 p204 q204
   cases e204
   replace p204 := eq_true p204
   replace q204 := eq_true q204
   go_wp2
   go_roundg k1
   case measure => have := HK1.out; omega
   case rel => exact ⟨(Go.bits .or .u8 x5_1 (Go.bits .xor .u8 (rd l0 x15_1) (rd l1 x15_1))), (wrap64 (x15_1 + 1)), (by first | rfl | (simp; done) | (simp [*]; done)), (by first | rfl | (simp; done) | (simp [*]; done)), H', ⟨by have := HK1.out; omega⟩, by repeat (first | exact Drawn0.refl _ | apply Drawn0.step)⟩
end Go.Proofs.YtghcadbmjglidaaGreatDoor.PSg
end
section
set_option linter.unusedVariables false
namespace Go.Proofs.YtghcadbmjglidaaGreatDoor.Sp
open Go.RowKit Go.Proofs.YtghcadbmjglidaaGreatDoor.PSg Go.Proofs.YtghcadbmjglidaaGreatDoorW.PrintWords Go.Proofs.YtghcadbmjglidaaGreatDoorW.PrintLast
abbrev B (l : List UInt8) : ByteArray := ⟨l.toArray⟩
theorem szB (l : List UInt8) : (B l).size = l.length := rfl
theorem blB (l : List UInt8) : bl (B l) = l := rfl
theorem toL (n : List UInt8) : (B n).toList = n := by rw [ByteArray.toList_eq]
theorem btB (l : List UInt8) (i : Nat) (h : i < l.length) : bt (B l) (i : Int) = ((l[i]).toNat : Int) := by
  unfold bt
  have h2 : (i : Int).toNat < (B l).size := by rw [Int.toNat_natCast]; exact h
  rw [dif_pos h2]
  rfl
theorem w1 (i : Nat) (h : i < 1000000000) : wrap64 ((i : Int) + 1) = ((i + 1 : Nat) : Int) := by unfold wrap64; omega
theorem appB (h m : List UInt8) : B h ++ B m = B (h ++ m) := by
  apply ByteArray.ext
  simp
theorem u8_nat (a b : UInt8) : ((a.toNat : Int) = (b.toNat : Int)) ↔ a = b := by
  constructor
  · intro h; exact UInt8.toNat_inj.1 (by omega)
  · intro h; rw [h]
theorem rdB (l : List (List UInt8)) (i : Nat) (h : i < l.length) : rdOf ByteArray.empty (l.map B) (i : Int) = B l[i] := by
  unfold rdOf
  rw [Int.toNat_natCast, List.getD_eq_getElem?_getD, List.getElem?_map, List.getElem?_eq_getElem h]
  rfl
theorem all_u8 {p : UInt8 → Prop} (h : ∀ c : Fin 256, p (UInt8.ofNat c.val)) (c : UInt8) : p c := by
  have := h ⟨c.toNat, c.toNat_lt⟩
  rwa [UInt8.ofNat_toNat] at this
def pA (c : UInt8) : Bool := (97 ≤ c && c ≤ 122) || (65 ≤ c && c ≤ 90) || (48 ≤ c && c ≤ 57)
def pD (c : UInt8) : Bool := 48 ≤ c && c ≤ 57
def pN (c : UInt8) : Bool := (97 ≤ c && c ≤ 122) || (48 ≤ c && c ≤ 57) || c == 45 || c == 95
def pS (c : UInt8) : Bool := (48 ≤ c && c ≤ 57) || (97 ≤ c && c ≤ 102)
def okN (l : List UInt8) : Bool := l.all pN && !l.isEmpty && decide (l.length ≤ 64)
def okA (l : List UInt8) : Bool := l.all pA && !l.isEmpty && decide (l.length ≤ 16)
def okD (l : List UInt8) : Bool := l.all pD && decide (l.length = 8)
def okS (l : List UInt8) : Bool := l.all pS && decide (l.length = 64)
def nmB : List UInt8 → List (List UInt8) → Bool
  | _, [] => true
  | last, x :: t => okN x && Op.bytesLess last x && nmB x t
def okNs (l : List (List UInt8)) : Bool := nmB [] l && !l.isEmpty && decide (l.length ≤ 24)
def rightB (a d : List UInt8) (l : List (List UInt8)) (s : List UInt8) : Bool := okA a && okD d && okNs l && okS s
def scopeL : List UInt8 := [47, 108, 111, 99, 97, 108, 47, 115, 51, 47, 97, 119, 115, 52, 95, 114, 101, 113, 117, 101, 115, 116]
def headL : List UInt8 := [44, 32, 83, 105, 103, 110, 101, 100, 72, 101, 97, 100, 101, 114, 115, 61]
def showB (a d : List UInt8) (l : List (List UInt8)) (s : List UInt8) : List UInt8 := algA ++ (a ++ ([47] ++ (d ++ (scopeL ++ (headL ++ (Uri.jn [59] l ++ (sgA ++ s)))))))
theorem only_f (l S : List UInt8) (m : Nat) (p : UInt8 → Bool) (hp : ∀ c : Fin 256, decide (0 ≤ Lib.indexByte S (UInt8.ofNat c.val)) = p (UInt8.ofNat c.val)) (hl : l.length ≤ 100000000) :
    sigv4_only.f (B l) (B S) (m : Int) = some (l.all p && !l.isEmpty && decide (l.length ≤ m)) := by
  unfold sigv4_only.f
  rw [if_pos (by rw [szB]; exact hl), blB, blB, szB]
  have h1 : (fun c => decide (0 ≤ Lib.indexByte S c)) = p := funext fun c => all_u8 (p := fun c => decide (0 ≤ Lib.indexByte S c) = p c) hp c
  rw [h1]
  congr 2
  simp
theorem less_compare : ∀ (a b : List UInt8), (Lib.compareBytes a b ≥ 0) ↔ ¬ (Op.bytesLess a b = true)
  | [], [] => by simp [Lib.compareBytes, Op.bytesLess]
  | [], _ :: _ => by simp [Lib.compareBytes, Op.bytesLess]
  | _ :: _, [] => by simp [Lib.compareBytes, Op.bytesLess]
  | a :: x, b :: y => by
    have ih := less_compare x y
    unfold Lib.compareBytes Op.bytesLess
    by_cases h1 : a < b
    · simp [h1]
    · by_cases h2 : b < a
      · have h3 : a ≠ b := fun e => by subst e; exact h1 h2
        simp [h1, h2, h3]
      · have h3 : a = b := by
          rw [UInt8.lt_iff_toNat_lt] at h1 h2
          exact UInt8.toNat_inj.1 (by omega)
        subst h3
        simp only [if_neg h1]
        rw [ih]
        simp [h1]
theorem names_l0 (L : List (List UInt8)) (hL : ∀ x ∈ L, x.length ≤ 100000000) (hl : L.length ≤ 1000000) : ∀ (d k i : Nat) (last : List UInt8), d = L.length - i → i ≤ L.length → d < k →
    sigv4_names.l0 k (L.map B) (B last) (L.map B) (L.length : Int) (i : Int) = some (nmB last (L.drop i) && !L.isEmpty && decide (L.length ≤ 24))
  | d, k, i, last, hd, hi, hk => by
    obtain ⟨k, rfl⟩ : ∃ m, k = m + 1 := ⟨k - 1, by omega⟩
    rw [sigv4_names.l0]
    cases d with
    | zero =>
      rw [if_neg (by omega), List.drop_eq_nil_of_le (by omega), List.length_map]
      cases L with
      | nil => rw [if_neg (by simp)]; rfl
      | cons x t =>
        rw [if_pos (by simp)]
        congr 1
        simp [nmB]
        omega
    | succ d =>
      have hlt : i < L.length := by omega
      rw [if_pos (by omega), if_pos (by omega), if_pos (by rw [List.length_map]; omega), rdB L i hlt, List.drop_eq_getElem_cons hlt]
      have h1 := only_f L[i] [97, 98, 99, 100, 101, 102, 103, 104, 105, 106, 107, 108, 109, 110, 111, 112, 113, 114, 115, 116, 117, 118, 119, 120, 121, 122, 48, 49, 50, 51, 52, 53, 54, 55, 56, 57, 45, 95] 64 pN (by decide +kernel) (hL _ (List.getElem_mem hlt))
      rw [show ((64 : Nat) : Int) = 64 from rfl] at h1
      rw [h1, Option.bind_some]
      change (if okN L[i] = true then _ else _) = _
      unfold nmB
      cases hok : okN L[i] with
      | false => rw [if_neg (by simp)]; rfl
      | true =>
        rw [if_pos rfl]
        unfold strings_Compare.f
        rw [Option.bind_some, blB, blB]
        cases hless : Op.bytesLess last L[i] with
        | false => rw [if_pos ((less_compare _ _).2 (by simp [hless]))]; rfl
        | true =>
          rw [if_neg (fun h => (less_compare _ _).1 h hless), w1 i (by omega), names_l0 L hL hl d k (i + 1) L[i] (by omega) (by omega) (by omega)]
          rfl
theorem names_f (L : List (List UInt8)) (hL : ∀ x ∈ L, x.length ≤ 100000000) (hl : L.length ≤ 1000000) (k : Nat) (hk : L.length < k) : sigv4_names.f k (L.map B) = some (okNs L) := by
  have := names_l0 L hL hl L.length k 0 [] rfl (Nat.zero_le _) hk
  unfold sigv4_names.f okNs
  rw [List.length_map]
  exact this
theorem right_f (a d s : List UInt8) (L : List (List UInt8)) (ha : a.length ≤ 100000000) (hd : d.length ≤ 100000000) (hs : s.length ≤ 100000000) (hL : ∀ x ∈ L, x.length ≤ 100000000) (hl : L.length ≤ 1000000) (k : Nat) (hk : L.length < k) :
    sigv4_right.f k (B a) (B d) (L.map B) (B s) = some (rightB a d L s) := by
  unfold sigv4_right.f
  rw [show strings_ToUpper.f (⟨#[97, 98, 99, 100, 101, 102, 103, 104, 105, 106, 107, 108, 109, 110, 111, 112, 113, 114, 115, 116, 117, 118, 119, 120, 121, 122]⟩ : ByteArray) = some (B [65, 66, 67, 68, 69, 70, 71, 72, 73, 74, 75, 76, 77, 78, 79, 80, 81, 82, 83, 84, 85, 86, 87, 88, 89, 90]) from by decide +kernel]
  rw [Option.bind_some]
  rw [if_pos (by decide), if_pos (by decide)]
  have h1 := only_f a [97, 98, 99, 100, 101, 102, 103, 104, 105, 106, 107, 108, 109, 110, 111, 112, 113, 114, 115, 116, 117, 118, 119, 120, 121, 122, 65, 66, 67, 68, 69, 70, 71, 72, 73, 74, 75, 76, 77, 78, 79, 80, 81, 82, 83, 84, 85, 86, 87, 88, 89, 90, 48, 49, 50, 51, 52, 53, 54, 55, 56, 57] 16 pA (by decide +kernel) ha
  rw [show ((16 : Nat) : Int) = 16 from rfl] at h1
  rw [show ((⟨#[97, 98, 99, 100, 101, 102, 103, 104, 105, 106, 107, 108, 109, 110, 111, 112, 113, 114, 115, 116, 117, 118, 119, 120, 121, 122]⟩ : ByteArray) ++ B [65, 66, 67, 68, 69, 70, 71, 72, 73, 74, 75, 76, 77, 78, 79, 80, 81, 82, 83, 84, 85, 86, 87, 88, 89, 90]) ++ (⟨#[48, 49, 50, 51, 52, 53, 54, 55, 56, 57]⟩ : ByteArray) = B [97, 98, 99, 100, 101, 102, 103, 104, 105, 106, 107, 108, 109, 110, 111, 112, 113, 114, 115, 116, 117, 118, 119, 120, 121, 122, 65, 66, 67, 68, 69, 70, 71, 72, 73, 74, 75, 76, 77, 78, 79, 80, 81, 82, 83, 84, 85, 86, 87, 88, 89, 90, 48, 49, 50, 51, 52, 53, 54, 55, 56, 57] from by rfl]
  rw [h1, Option.bind_some]
  change (if okA a = true then _ else _) = _
  unfold rightB
  cases hA : okA a with
  | false => rw [if_neg (by simp)]; rfl
  | true =>
    rw [if_pos rfl]
    have h2 := only_f d [48, 49, 50, 51, 52, 53, 54, 55, 56, 57] 8 pD (by decide +kernel) hd
    rw [show ((8 : Nat) : Int) = 8 from rfl] at h2
    rw [h2, Option.bind_some, szB]
    have hD : (if (d.all pD && !d.isEmpty && decide (d.length ≤ 8)) = true then (if (d.length : Int) = 8 then (some true) else some false) else some false) = some (okD d) := by
      unfold okD
      cases d.all pD with
      | false => rfl
      | true =>
        by_cases h8 : d.length = 8
        · have : d.isEmpty = false := by cases d; simp at h8; rfl
          rw [this]; simp [h8]
        · simp only [Bool.true_and]
          rw [show decide (d.length = 8) = false from decide_eq_false h8]
          split
          · rw [if_neg (by omega)]
          · rfl
    have hk2 : ∀ (X : Option Bool), (if (d.all pD && !d.isEmpty && decide (d.length ≤ 8)) = true then (if (d.length : Int) = 8 then X else some false) else some false) = if okD d = true then X else some false := by
      intro X
      split at hD
      · rename_i h; rw [if_pos h]
        split at hD
        · rename_i h; rw [if_pos h, ← Option.some.inj hD, if_pos rfl]
        · rename_i h; rw [if_neg h, ← Option.some.inj hD, if_neg (by simp)]
      · rename_i h; rw [if_neg h, ← Option.some.inj hD, if_neg (by simp)]
    rw [hk2]
    cases hD2 : okD d with
    | false => rw [if_neg (by simp)]; rfl
    | true =>
      rw [if_pos rfl, names_f L hL hl k hk, Option.bind_some]
      cases hN : okNs L with
      | false => rw [if_neg (by simp)]; rfl
      | true =>
        rw [if_pos rfl]
        have h3 := only_f s [48, 49, 50, 51, 52, 53, 54, 55, 56, 57, 97, 98, 99, 100, 101, 102] 64 pS (by decide +kernel) hs
        rw [show ((64 : Nat) : Int) = 64 from rfl] at h3
        rw [h3, Option.bind_some, szB]
        unfold okS
        cases s.all pS with
        | false => rfl
        | true =>
          by_cases h8 : s.length = 64
          · have : s.isEmpty = false := by cases s; simp at h8; rfl
            rw [this]; simp [h8]
          · simp only [Bool.true_and]
            rw [show decide (s.length = 64) = false from decide_eq_false h8]
            split
            · congr 1; rw [beq_eq_false_iff_ne]; omega
            · rfl
theorem scope_f (d : List UInt8) (hd : d.length ≤ 100000000) : sigv4_scope.f (B d) = some (B (d ++ scopeL)) := by
  unfold sigv4_scope.f strings_Join.f
  rw [if_pos ⟨by simp, by decide, by decide, by simp [szB]; omega⟩, Option.bind_some]
  congr 1
theorem jn_map (L : List (List UInt8)) : (L.map B).map bl = L := by rw [List.map_map]; exact List.map_id _
theorem show_f (a d s : List UInt8) (L : List (List UInt8)) (ha : a.length ≤ 100000000) (hd : d.length ≤ 100000000) (hs : s.length ≤ 100000000) (hL : (L.map List.length).sum ≤ 100000000) (hl : L.length ≤ 1000000) :
    sigv4_ShowAuth.f (B a) (B d) (L.map B) (B s) = some (B (showB a d L s)) := by
  have hj := Uri.jn_len [59] L
  have hj2 : (Uri.jn [59] L).length ≤ 200000000 := by simp at hj; omega
  unfold sigv4_ShowAuth.f
  rw [if_pos (by rw [szB]; omega)]
  rw [show (⟨#[65, 87, 83, 52, 45, 72, 77, 65, 67, 45, 83, 72, 65, 50, 53, 54, 32, 67, 114, 101, 100, 101, 110, 116, 105, 97, 108, 61]⟩ : ByteArray) = B algA from rfl, appB, szB]
  rw [if_pos (by simp [algA]; omega), scope_f d hd, Option.bind_some]
  rw [show (⟨#[47]⟩ : ByteArray) = B [47] from rfl, appB, szB, szB]
  rw [if_pos (by simp [algA, scopeL]; omega), appB, szB]
  rw [if_pos (by simp [algA, scopeL]; omega)]
  have hjf : strings_Join.f (L.map B) (⟨#[59]⟩ : ByteArray) = some (B (Uri.jn [59] L)) := by
    unfold strings_Join.f
    rw [if_pos ⟨by simp; omega, by decide, by decide, by rw [List.map_map]; exact Nat.le_trans hL (by decide)⟩, jn_map]
    rfl
  rw [hjf, Option.bind_some]
  rw [show (⟨#[44, 32, 83, 105, 103, 110, 101, 100, 72, 101, 97, 100, 101, 114, 115, 61]⟩ : ByteArray) = B headL from rfl, appB, szB, szB]
  rw [if_pos (by simp [algA, scopeL, headL]; omega), appB, szB]
  rw [if_pos (by simp [algA, scopeL, headL]; omega)]
  rw [show (⟨#[44, 32, 83, 105, 103, 110, 97, 116, 117, 114, 101, 61]⟩ : ByteArray) = B sgA from rfl, appB, szB, szB]
  rw [if_pos (by simp [algA, scopeL, headL, sgA]; omega), appB]
  unfold showB
  simp only [List.append_assoc]
end Go.Proofs.YtghcadbmjglidaaGreatDoor.Sp
end
