/- The statement Sigv4Auths is proved, for arguments of bulk at most 1048576 (the second form): the Go function returns true, and its arguments read as they did. The listed variables are tied to the program's text by the given tie. -/
import Derived.Test.YtghcadbmjglidaaGreatDoorAv7
import Derived.Test.YtghcadbmjglidaaGreatDoorRows
import Derived.WalkKit
import Derived.ProofKit
import Derived.OpenShut
import Derived.ShutString
import Derived.ChangeOld
import Derived.Below
import Derived.Carry
import Derived.SizedLaws
import Derived.Lay
import Derived.LaidOnce
import Derived.SevenTiedAt
import Derived.Shelf.Vars
import Derived.Deep.DeepHandedRow
import Derived.Deep.Slices
import Derived.ChangeSame
import Derived.ChangeSlices
import Derived.ChangeMaps5
import Derived.Lib.SmallJoins
import Derived.Test.YtghcadbmjglidaaGreatDoorCards
import Derived.Test.YtghcadbmjglidaaGreatDoorTie
namespace Go.Proofs.YtghcadbmjglidaaGreatDoor.sigv4Auths
open Go.ChangeShapes Go.WideShapes Go.ChangeAt Go.RowKit Go.Proofs.YtghcadbmjglidaaGreatDoorW.PrintWords Go.Proofs.YtghcadbmjglidaaGreatDoor.PSg Go.Proofs.YtghcadbmjglidaaGreatDoor.Sp
open Go.ChangeMaps (open_string shut_string)
set_option linter.unusedVariables false
set_option maxRecDepth 100000
theorem own : ownKnob Tryz.prog.godebug = none := by kernel_rfl
theorem laidOut : laidOutB Tryz.prog = true := by kernel_rfl
theorem ucells_one {w : World} {a : Addr} {cs : List Value} (h : w.cells? 0 a 1 = some cs) : ∃ u, cs = [u] ∧ w.cell? (a.add 0) = some u := by
  unfold World.cells? at h
  rw [if_pos (Nat.zero_le _)] at h
  cases h0 : w.cell? (a.add 0) with
  | none => simp [List.range_succ, h0] at h
  | some u => exact ⟨u, by simpa [List.range_succ, h0] using h.symm, rfl⟩
theorem bulk_map {H : Type} (D : Nat → DataW H) : ∀ l : List Nat, Rows.uptoBulkAll (l.map D) = (l.map fun i => Rows.uptoBulk (D i)).sum
  | [] => rfl
  | x :: t => by rw [List.map_cons, List.map_cons, List.sum_cons, Rows.uptoBulkAll, bulk_map D t]
theorem bulk_in {H : Type} : ∀ (l : List (DataW H)) (d : DataW H), d ∈ l → Rows.uptoBulk d ≤ Rows.uptoBulkAll l
  | y :: t, d, h => by
    rw [Rows.uptoBulkAll]
    rcases List.mem_cons.1 h with rfl | h
    · omega
    · have := bulk_in t d h; omega
theorem open_str {H : Type} {enc : TypeId × Value → H} {W : World} {fuel : Nat} {u : Value} {x : DataW H × List MemPlace} (h : DataW.trod enc Tryz.prog W 0 (fun _ => true) true fuel 9 [u] = some x) : ∃ s : ByteArray, u = .string s ∧ x.1 = .lit (.string s.data.toList) := by
  obtain ⟨s, e0, x0, _⟩ := DataW.trod_string Tryz.underlying9 h
  exact ⟨s, by simpa using e0, by rw [x0]⟩
theorem open_strs {H : Type} {enc : TypeId × Value → H} {W : World} {fuel : Nat} {cs : List Value} {x : DataW H × List MemPlace} (hf : DataW.trod enc Tryz.prog W 0 (fun _ => true) true fuel 22 cs = some x) :
    ∃ (A : Option Addr) (c : Nat) (l : List ByteArray), cs = [.slice A l.length c] ∧ Kd.C Kd.string W A l.length l ∧ l.length ≤ c ∧ (l.map (·.size)).sum + l.length ≤ Rows.uptoBulk x.1 := by
  rcases Go.Deep.open_slice Tryz.underlying22 hf with ⟨rfl, _⟩ | ⟨a, len, cap, m, n, D, Pl, rfl, _, hl, hmx, hm, hx, hcells⟩
  · exact ⟨none, 0, [], rfl, Kd.C_nil _ _, Nat.le_refl _, by simp⟩
  · have hm' : m = cap := hm
    have c1 : Tryz.prog.cellsOf 9 = 1 := by kernel_rfl
    have hd : x.1 = .slice ((List.range len).map D) ((List.range (m - len)).map fun j => D (len + j)) := congrArg Prod.fst hx
    have each : ∀ i, i < len → ∃ s : ByteArray, W.cell? (a.add i) = some (.string s) ∧ D i = .lit (.string s.data.toList) := by
      intro i hi
      obtain ⟨cs', h1, h2⟩ := hcells i (by omega)
      rw [c1, Nat.mul_one] at h1
      obtain ⟨u, rfl, hu⟩ := ucells_one h1
      obtain ⟨s, rfl, hs⟩ := open_str h2
      rw [Go.Deep.add_add, Nat.add_zero] at hu
      exact ⟨s, hu, hs⟩
    haveI : Inhabited ByteArray := ⟨ByteArray.empty⟩
    obtain ⟨f, hf'⟩ := Go.Deep.choose_lt each
    have hlen : ((List.range len).map f).length = len := by simp
    have hget : ∀ k, k < len → ((List.range len).map f)[k]? = some (f k) := fun k hk => by
      simp [List.getElem?_map, List.getElem?_range hk]
    refine ⟨some a, cap, (List.range len).map f, by rw [hlen], Kd.C_of_reads (enc := Value.string) (d := ByteArray.empty) (h1 := fun _ => rfl) ⟨rfl, by rw [hlen]; unfold maxLen at hmx; omega, fun _ => ⟨a, rfl, fun j hj => ?_⟩⟩, by rw [hlen]; exact hl, ?_⟩
    · rw [hlen] at hj
      rw [List.getD_eq_getElem?_getD, hget j hj]
      exact (hf' j hj).1
    · rw [hlen, hd, Rows.uptoBulk, bulk_map, List.map_map]
      have he : (List.range len).map (fun i => Rows.uptoBulk (D i)) = (List.range len).map (fun i => (f i).size + 1) := List.map_congr_left fun i hi => by
        rw [(hf' i (List.mem_range.1 hi)).2, Rows.uptoBulk, ← Lib.size_eq]
      rw [he]
      have hsum : ∀ l : List Nat, (l.map fun i => (f i).size + 1).sum = (l.map ((fun x : ByteArray => x.size) ∘ f)).sum + l.length := by
        intro l
        induction l with
        | nil => rfl
        | cons x t ih => rw [List.map_cons, List.sum_cons, ih, List.map_cons, List.sum_cons, List.length_cons]; simp only [Function.comp]; omega
      rw [hsum, List.length_range]
      omega
theorem open_auth {H : Type} {enc : TypeId × Value → H} {W : World} {v : Value} {d : DataW H} {p : List MemPlace} {base : Nat} (hval : Value.okWide Tryz.prog W .any base 24 v) (h : DataW.Trod enc Tryz.prog W 0 (fun _ => true) true 24 v d p) (hb : Rows.uptoBulk d ≤ 1048576) :
    ∃ (a0 a1 : ByteArray) (A2 : Option Addr) (c2 : Nat) (l2 : List ByteArray) (a3 : ByteArray), v = .agg #[.string a0, .string a1, .slice A2 l2.length c2, .string a3] ∧ Kd.C Kd.string W A2 l2.length l2 ∧ l2.length ≤ c2 ∧ a0.size ≤ 1048576 ∧ a1.size ≤ 1048576 ∧ a3.size ≤ 1048576 ∧ l2.length ≤ 1048576 ∧ (l2.map (·.size)).sum ≤ 1048576 := by
  have c24 : Tryz.prog.cellsOf 24 = 4 := by kernel_rfl
  obtain ⟨cs, rfl, hcs⟩ := okWide_struct Tryz.underlying24 hval
  rw [c24] at hcs
  obtain ⟨v0, v1, v2, v3, rfl⟩ : ∃ v0 v1 v2 v3, cs = #[v0, v1, v2, v3] := by
    obtain ⟨l⟩ := cs
    match l, hcs with
    | [v0, v1, v2, v3], _ => exact ⟨v0, v1, v2, v3, rfl⟩
  obtain ⟨fuel, hf⟩ := h
  obtain ⟨xs, n, rfl, hx, _, hxl, hfs⟩ := DataW.trod_struct Tryz.underlying24 hf
  have hcells : (Value.agg #[v0, v1, v2, v3]).cells.toList = [v0, v1, v2, v3] := rfl
  rw [hcells] at hfs
  obtain ⟨y0, y1, y2, y3, rfl⟩ : ∃ y0 y1 y2 y3, xs = [y0, y1, y2, y3] := by
    match xs, hxl with
    | [y0, y1, y2, y3], _ => exact ⟨y0, y1, y2, y3, rfl⟩
  have c9 : Tryz.prog.cellsOf 9 = 1 := by kernel_rfl
  have c22 : Tryz.prog.cellsOf 22 = 1 := by kernel_rfl
  have f0 := hfs 0 _ rfl
  have f1 := hfs 1 _ rfl
  have f2 := hfs 2 _ rfl
  have f3 := hfs 3 _ rfl
  rw [show (_ : Field).type = 9 from rfl, c9] at f0 f1 f3
  rw [show (_ : Field).type = 22 from rfl, c22] at f2
  have f0' : DataW.trod enc Tryz.prog W 0 (fun _ => true) true n 9 [v0] = some y0 := f0
  have f1' : DataW.trod enc Tryz.prog W 0 (fun _ => true) true n 9 [v1] = some y1 := f1
  have f2' : DataW.trod enc Tryz.prog W 0 (fun _ => true) true n 22 [v2] = some y2 := f2
  have f3' : DataW.trod enc Tryz.prog W 0 (fun _ => true) true n 9 [v3] = some y3 := f3
  have hd : d = .agg [y0.1, y1.1, y2.1, y3.1] := congrArg Prod.fst hx
  obtain ⟨s0, rfl, z0⟩ := open_str f0'
  obtain ⟨s1, rfl, z1⟩ := open_str f1'
  obtain ⟨A2, c2, l2, e2, hC2, hlc2, hs2⟩ := open_strs f2'
  obtain ⟨s3, rfl, z3⟩ := open_str f3'
  have a2 : v2 = .slice A2 l2.length c2 := by simpa using e2
  rw [hd, Rows.uptoBulk] at hb
  have i0 := bulk_in [y0.1, y1.1, y2.1, y3.1] y0.1 (by simp)
  have i1 := bulk_in [y0.1, y1.1, y2.1, y3.1] y1.1 (by simp)
  have i2 := bulk_in [y0.1, y1.1, y2.1, y3.1] y2.1 (by simp)
  have i3 := bulk_in [y0.1, y1.1, y2.1, y3.1] y3.1 (by simp)
  rw [z0, Rows.uptoBulk, ← Lib.size_eq] at i0
  rw [z1, Rows.uptoBulk, ← Lib.size_eq] at i1
  rw [z3, Rows.uptoBulk, ← Lib.size_eq] at i3
  rw [z0] at i1 i2 i3 hb
  rw [z1] at i0 i2 i3 hb
  rw [z3] at i0 i1 i2 hb
  exact ⟨s0, s1, A2, c2, l2, s3, by rw [a2], hC2, hlc2, by first | omega | (rw [z0, z1, z3] at *; omega), by omega, by omega, by omega, by omega⟩
theorem laid_met (os : Os) : laidMetH Tryz.prog Rows.sigv4AuthsUptoRow.laid ((World.laidAll Tryz.prog os Rows.sigv4AuthsUptoRow.laid).forCall (fun _ _ => 0) ⟨#[], #[.string ByteArray.empty, .agg #[.string ByteArray.empty, .string ByteArray.empty, .slice none 0 0, .string ByteArray.empty]], []⟩).memory := by
  rw [MakeChecks.laidMetH_plain _ _ _ (by kernel_rfl)]
  exact laidMet_laidAll _ (by kernel_rfl) (by kernel_rfl)
theorem reads (os : Os) {H : Type} (enc : TypeId × Value → H) : ∃ places, DataW.whole enc Tryz.prog ((World.laidAll Tryz.prog os Rows.sigv4AuthsUptoRow.laid).forCall (fun _ _ => 0) ⟨#[], #[.string ByteArray.empty, .agg #[.string ByteArray.empty, .string ByteArray.empty, .slice none 0 0, .string ByteArray.empty]], []⟩).memory Tryz.f3.params.toList Rows.sigv4AuthsSpec.vars false #[Value.string ByteArray.empty, .agg #[.string ByteArray.empty, .string ByteArray.empty, .slice none 0 0, .string ByteArray.empty]].toList 8 = some ([.lit (.string []), .agg [.lit (.string []), .lit (.string []), .nil, .lit (.string [])]], [], places) :=
  ⟨[], by kernel_rfl⟩
theorem witness (os : Os) {H : Type} (enc : TypeId × Value → H) : ∃ (w : World) (tape : Tape) (i : Input), w.os = os ∧ (w.forCall tape i).Shaped Tryz.checked.prog ∧ i.vars = [] ∧ Input.okWide Tryz.checked.prog (w.forCall tape i) .any w.heap.size 3 i ∧
    (Rows.OpenSpec.upto Rows.sigv4AuthsSpec).preRow enc Tryz.checked.prog Tryz.f3 Rows.sigv4AuthsUptoRow.domain false Rows.sigv4AuthsUptoRow.laid (w.forCall tape i).memory i.args ∧ ({} : Assume).holds Tryz.checked.prog (lone (Frame.enter Tryz.checked.prog 3 i.args .normal) [] (w.forCall tape i)) := by
  obtain ⟨places, hx⟩ := reads os enc
  have hok : Input.okWideB Tryz.prog ((World.laidAll Tryz.prog os Rows.sigv4AuthsUptoRow.laid).forCall (fun _ _ => 0) ⟨#[], #[.string ByteArray.empty, .agg #[.string ByteArray.empty, .string ByteArray.empty, .slice none 0 0, .string ByteArray.empty]], []⟩) 3 ⟨#[], #[.string ByteArray.empty, .agg #[.string ByteArray.empty, .string ByteArray.empty, .slice none 0 0, .string ByteArray.empty]], []⟩ = true := by kernel_rfl
  exact ⟨World.laidAll Tryz.prog os Rows.sigv4AuthsUptoRow.laid, fun _ _ => 0, ⟨#[], #[.string ByteArray.empty, .agg #[.string ByteArray.empty, .string ByteArray.empty, .slice none 0 0, .string ByteArray.empty]], []⟩, World.laidAll_os _ _ _, World.shaped_of_ZipB (by kernel_rfl) (by kernel_rfl), (Input.okWide_of_okWideB (base := 0) hok).1, (Input.okWide_of_okWideB hok).2,
    OpenSpec.preRow_of_cond 8 hx (by kernel_rfl) (fun k hk => by cases hk; kernel_rfl) (by kernel_rfl) (laid_met os), by
      simp only [Assume.holds]
      exact ⟨by simp, by simp, fun _ => Modest.zero, by simp, by simp⟩⟩
theorem liftedUpto (os : Os) (started : os.Started) (H : Type) (enc : TypeId × Value → H) (F : Stop.Interp) :
    ReturnsInHanded {} Tryz.checked os 3 .any ((Rows.OpenSpec.upto Rows.sigv4AuthsSpec).preRow enc Tryz.prog Tryz.f3 Rows.sigv4AuthsUptoRow.domain false Rows.sigv4AuthsUptoRow.laid) (((Rows.OpenSpec.upto Rows.sigv4AuthsSpec).at F).post enc Tryz.prog Tryz.f3 false true false false) := by
  refine returnsInHanded_of_row (C := Tryz.checked) (s := Rows.OpenSpec.upto Rows.sigv4AuthsSpec) own started (by kernel_rfl) Tryz.func3 (witness os enc) ?_
  intro W base args ds gs before hval0 hW _ hcond _ _ hsh _
  have hval : ∀ (j : Nat) t v, Tryz.f3.params[j]? = some t → args[j]? = some v → Value.okWide Tryz.prog W .any base t v := hval0
  have hb : Rows.uptoBulkAll (ds ++ gs) ≤ 1048576 := of_decide_eq_true (hcond _ rfl)
  have hW' : DataW.Whole enc Tryz.prog Tryz.f3.params.toList Rows.sigv4AuthsSpec.vars false W args.toList ds gs before := hW
  obtain ⟨p, q, hA0, hV, rfl, hfz, hnd⟩ := hW
  have hA : DataW.TrodAll enc Tryz.prog W 0 (fun _ => true) true Tryz.f3.params.toList args.toList ds p := hA0
  rw [Tryz.params3] at hA hval
  obtain ⟨v0, vs0, d0, ds0, p0, q0, hargs, rfl, rfl, h0, r0⟩ := trodAll_cons hA
  obtain ⟨v1, vs1, d1, ds1, p1, q1, rfl, rfl, rfl, h1, r1⟩ := trodAll_cons r0
  obtain ⟨rfl, rfl, rfl⟩ := trodAll_nil r1
  obtain rfl : args = #[v0, v1] := by cases args; simp_all
  obtain ⟨rfl, rfl⟩ := trodVars_none hV
  have k1 := h1
  have lt1 : ∀ x ∈ p1, x.block < W.heap.size := by obtain ⟨m, hm⟩ := k1; exact DataW.trod_lt m _ _ _ hm
  obtain ⟨a0, rfl, rfl, rfl, y0⟩ := open_string Tryz.underlying9 (hval 0 9 v0 rfl rfl) h0
  have b0 := bulk_in [DataW.lit (.string a0.data.toList), d1] (DataW.lit (.string a0.data.toList)) (by simp)
  have b1 := bulk_in [DataW.lit (.string a0.data.toList), d1] d1 (by simp)
  rw [List.append_nil] at hb
  have w0 : a0.size ≤ 1048576 := by
    rw [Rows.uptoBulk, ← Lib.size_eq] at b0
    omega
  obtain ⟨s0, s1, A2, c2, l2, s3, rfl, hC2, hl2, hz0, hz1, hz3, hz2, hs2⟩ := open_auth (hval 1 24 v1 rfl rfl) h1 (by omega)
  have hM : MaxOk W := cell_of_shapedOpen_int (zero := #[.int .i64 0]) (t := 3) hsh (of_decide_eq_true (by kernel_rfl)) (by kernel_rfl) rfl (by kernel_rfl) (by kernel_rfl) Tryz.underlying3
  clear hA0 hval0
  refine (auths_calls 1000001 (by omega) a0 s0 s1 s3 A2 c2 l2 W hC2 hl2 (.mk hM) w0 hz0 hz1 hz3 hz2 hs2).mono fun e W' ⟨he, bel⟩ => ?_
  subst he
  have back1 := Below.trod laidOut (by kernel_rfl) (of_decide_eq_true (by kernel_rfl)) k1 bel lt1
  have hP : Rows.sigv4AuthsSpec.post enc Tryz.prog Tryz.f3 false true false false W #[.string a0, .agg #[.string s0, .string s1, .slice A2 l2.length c2, .string s3]] (.bool true) W' :=
    ⟨_, _, _, [], _, [], hW', trodAll_mk1 (shut_bool Tryz.underlying4 _), (trodAll_cons_mk (shut_string Tryz.underlying9 y0) (trodAll_cons_mk back1 trodAll_mk0)), rfl, bel.frame _, fun h => by cases h⟩
  exact ⟨_, rfl, hP⟩
theorem saidUpto : Rows.Sigv4AuthsUptoSaid :=
  OpenClaim.holds_of_cond 3 Tryz.f3 rfl rfl rfl rfl rfl rfl rfl ⟨rfl, rfl, rfl, rfl, rfl⟩ rfl rfl rfl rfl rfl (by kernel_rfl) Tryz.func3 (by kernel_rfl)
    (of_decide_eq_true (by kernel_rfl)) (by unfold Func.isWrapper; first | (rw [if_pos (by decide +kernel)]; kernel_rfl) | (rw [if_neg (by decide +kernel)]; exact ⟨rfl, rfl⟩))
    (fun os started H enc _ F => by rw [OpenClaim.pre_eq_preRow]; exact liftedUpto os started H enc F)
theorem cardUpto : Rows.Sigv4AuthsUptoCardSaid :=
  Claim7.holds_tied_plain_at .later [] [.data, .pinned, .pinned] true (true, "11dab6e7c804d81086d48510f594f851fdbfbcd599d2b6c6848df07feec85441") false
    saidUpto (fun _ h => by cases h) (by kernel_rfl) (fun _ h => by cases h) sigv4AuthsUpto_row_tie rfl ⟨rfl, rfl⟩ (by kernel_rfl) rfl
    (fun f fn hf hfn => by
      obtain rfl : f = 3 := Option.some.inj ((show Tryz.prog.funcNamed "stele/stelelaw06.Sigv4Auths" = some 3 by kernel_rfl).symm.trans hf) |>.symm
      obtain rfl : fn = Tryz.f3 := (Option.some.inj (Tryz.func3.symm.trans hfn)).symm
      exact ⟨by kernel_rfl, fun j t ht => by
        rw [Tryz.params3] at ht
        have hm : t ∈ Tryz.f3.params.toList := by simpa using Array.mem_of_getElem? ht
        have hall : (Tryz.f3.params.toList.all fun u => !Tryz.prog.wantsStandIn u) = true := by kernel_rfl
        exact (show Tryz.prog.wantsStandIn t = false by simpa using List.all_eq_true.1 hall t hm)⟩)
    (by kernel_rfl)
#print axioms cardUpto
end Go.Proofs.YtghcadbmjglidaaGreatDoor.sigv4Auths
